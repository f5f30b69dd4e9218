/- Own texts, laid together: CQ PV0 PY0 PC0 PC1 PC2 PC3 PC4 PXD PXA PY1 PV2 PV5 PV6 PY2 PVW PY3 PY4 PY5 PY6. -/
import Derived.Test.YtbnmhjobnepajaaGreatZ1
import Derived.Test.YtbnmhjobnepajaaGreatZ2
import Derived.Test.YtbnmhjobnepajaaGreatZ3
import Derived.Test.YtbnmhjobnepajaaGreatZ4
set_option linter.unusedVariables false
set_option linter.unusedSimpArgs false
set_option maxRecDepth 100000
namespace Go.Proofs.YtbnmhjobnepajaaGreat.M
open Go.Proofs
section
variable {α β γ δ s : Type}
theorem bmb {o : Option α} {F : α → Option δ} {F' : α → Option γ} {c : δ → β} {k : γ → Option β} (h : ∀ a, (F a).map c = (F' a).bind k) : (o.bind F).map c = (o.bind F').bind k := by cases o <;> simp [h]
theorem bmd {o : Option α} {F : α → Option δ} {F' : α → α → Option γ} {c : δ → β} {k : γ → Option β} (h : ∀ a, (F a).map c = (F' a a).bind k) : (o.bind F).map c = (o.bind fun a => o.bind fun b => F' a b).bind k := by cases o <;> simp [h]
theorem itm {p q : Prop} [Decidable p] [Decidable q] {a b : Option δ} {a' b' : Option γ} {c : δ → β} {k : γ → Option β} (hc : p ↔ q) (h1 : p → a.map c = a'.bind k) (h2 : ¬p → b.map c = b'.bind k) : (if p then a else b).map c = (if q then a' else b').bind k := by
  by_cases h : p
  · rw [if_pos h, if_pos (hc.1 h)]; exact h1 h
  · rw [if_neg h, if_neg fun hq => h (hc.2 hq)]; exact h2 h
theorem itb {p q : Prop} [Decidable p] [Decidable q] {a b a' b' : Option β} (hc : p ↔ q) (h1 : p → a = a') (h2 : ¬p → b = b') : (if p then a else b) = if q then a' else b' := by
  by_cases h : p
  · rw [if_pos h, if_pos (hc.1 h)]; exact h1 h
  · rw [if_neg h, if_neg fun hq => h (hc.2 hq)]; exact h2 h
theorem itn {p : Bool} {a b a' b' : Option β} (h1 : p = false → a = b') (h2 : p = true → b = a') : (if (!p) = true then a else b) = if p = true then a' else b' := by
  cases p
  · exact h1 rfl
  · exact h2 rfl
theorem bbb {o : Option α} {F F' : α → Option β} (h : ∀ a, F a = F' a) : o.bind F = o.bind F' := by cases o <;> simp [h]
theorem bbd {o : Option α} {F : α → Option β} {F' : α → α → Option β} (h : ∀ a, F' a a = F a) : (o.bind fun a => o.bind fun b => F' a b) = o.bind F := by cases o <;> simp [h]
theorem bb2 {o o' : Option α} {F F' : α → Option β} (ho : o = o') (h : ∀ a, F a = F' a) : o.bind F = o'.bind F' := by subst ho; cases o <;> simp [h]
theorem map_bind_eq {o : Option α} {c : α → γ} {F : γ → Option β} {F' : α → Option β} (h : ∀ a, F (c a) = F' a) : (o.map c).bind F = o.bind F' := by cases o <;> simp [h]
theorem loop_eq {f : s → Option (s ⊕ γ)} {g : s → Option δ} {c : δ → γ} (B : (s → Option δ) → s → Option δ) (hst : ∀ self x, (B self x).map c = (f x).bind (Sum.elim (fun y => (self y).map c) some)) (hg : ∀ x, g x = B g x)
    (hl : ∀ (M : s → δ → Prop), (∀ self, (∀ x r, self x = some r → M x r) → ∀ x r, B self x = some r → M x r) → ∀ x r, g x = some r → M x r) (x : s) : loopM f x = (g x).map c := by
  have un : ∀ x, loopM f x = (f x).bind (Sum.elim (fun y => loopM f y) some) := by
    intro x
    rw [loopM]
    show (f x).bind _ = _
    cases f x with
    | none => rfl
    | some y => cases y <;> rfl
  refine Option.ext fun r => ⟨fun h => ?_, fun h => ?_⟩
  · refine loopM.partial_correctness f (fun x r => (g x).map c = some r) (fun self ih x r hr => ?_) x r h
    rw [hg, hst]
    cases hf : f x with
    | none => rw [hf] at hr; cases hr
    | some y =>
      rw [hf] at hr
      cases y with
      | inl y => exact ih y r hr
      | inr y => exact hr
  · cases hgx : g x with
    | none => rw [hgx] at h; cases h
    | some d =>
      rw [hgx] at h
      simp only [Option.map_some, Option.some.injEq] at h
      subst h
      refine hl (fun x d => loopM f x = some (c d)) (fun self ih x r hr => ?_) x d hgx
      have h1 := hst self x
      rw [hr] at h1
      rw [un]
      cases hf : f x with
      | none => rw [hf] at h1; cases h1
      | some y =>
        rw [hf] at h1
        cases y with
        | inl y =>
          cases hs : self y with
          | none => simp [hs] at h1
          | some z =>
            simp only [Option.bind_some, Sum.elim_inl, hs, Option.map_some, Option.some.injEq] at h1
            show loopM f y = _
            rw [ih y z hs, h1]
        | inr y => exact h1.symm
end
theorem eq_18 : f_disk_New = f18 := by
  funext a0 a1
  unfold f_disk_New f18
  try simp only []
  rfl
theorem eq_70 : f_disk_Disk_works = f70 := by
  funext a0 a1
  unfold f_disk_Disk_works f70
  try simp only [eq_18]
  rfl
noncomputable def B_71_l0 (p0 : List UInt8) (self : (Int) → Option (Sum Int Bool)) (s : (Int)) : Option (Sum Int Bool) :=
  if (decide (s < (p0.length : Int))) = true then
  if (0 : Int) ≤ s ∧ s < (p0.length : Int) then
  if ((((((decide ((btS p0 s) < 97)) || (decide ((btS p0 s) > 122))) && ((decide ((btS p0 s) < 48)) || (decide ((btS p0 s) > 57)))) && ((btS p0 s) != 46)) && ((btS p0 s) != 45)) && ((btS p0 s) != 95)) = true then
  some (.inr false)
  else
  self (IntKind.wrap .i64 (s + 1))
  else none
  else
  some (.inl s)
theorem st_71_l0 (p0 : List UInt8) (self : (Int) → Option (Sum Int Bool)) (s : (Int)) : (B_71_l0 p0 self s).map (Sum.map (fun _ => ()) id) = (f_disk_name_l0 p0 s).bind (Sum.elim (fun y => (self y).map (Sum.map (fun _ => ()) id)) some) := by
  unfold B_71_l0 f_disk_name_l0
  repeat' (first | rfl | refine bmd fun _ => ?_ | refine bmb fun _ => ?_ | refine itm Iff.rfl (fun _ => ?_) (fun _ => ?_))
theorem lp_71_l0 (p0 : List UInt8) (s : (Int)) : loopM (f_disk_name_l0 p0) s = (f71_l0 p0 s).map (Sum.map (fun _ => ()) id) :=
  loop_eq (g := fun s => f71_l0 p0 s) (B_71_l0 p0) (st_71_l0 p0) (fun s => by show f71_l0 p0 s = _; rw [f71_l0]; rfl)
    (fun M h s r => f71_l0.partial_correctness p0 (fun a0 r => M (a0) r) (fun self ih a0 r hx => h (fun s => self s) (fun s r hr => ih s r hr) (a0) r hx) s r) s
theorem eq_71 : f_disk_name = f71 := by
  funext p0
  unfold f_disk_name f71
  rw [lp_71_l0]
  cases f71_l0 p0 0 with
  | none => rfl
  | some x => cases x <;> rfl
theorem eq_w73 : f_disk_Disk_write_disk_Disk_Append_1 = fun p _ => f72 p f73 := by
  funext p x σ
  unfold f_disk_Disk_write_disk_Disk_Append_1
  rfl
theorem eq_24 : f_disk_Disk_Append = f24 := by
  funext p x y σ
  unfold f_disk_Disk_Append f24
  simp only [eq_70, eq_71, eq_w73]
  refine bbb fun r => itb Iff.rfl (fun _ => rfl) fun _ => bbb fun r9 => itb Iff.rfl (fun _ => rfl) fun _ => bbb fun i => bbd fun o => bbb fun z => ?_
  refine itb Iff.rfl (fun h => ?_) (fun h => ?_)
  · refine bbb fun i => bbd fun o => itn (fun _ => itn (fun _ => ?_) fun _ => rfl) fun _ => rfl
    refine bbb fun i => bbb fun o => bbb fun r => itb Iff.rfl (fun _ => rfl) fun _ => ?_
    refine bb2 (itb Iff.rfl (fun _ => bbb fun i => bbd fun o => rfl) fun _ => rfl) fun z => rfl
  · refine itn (fun _ => ?_) fun _ => rfl
    refine bbb fun i => bbb fun o => bbb fun r => itb Iff.rfl (fun _ => rfl) fun _ => ?_
    refine bb2 (itb Iff.rfl (fun _ => bbb fun i => bbd fun o => rfl) fun _ => rfl) fun z => rfl
noncomputable def B_27_l0 (p0 : Option Nat) (r7 : List (List UInt8)) (self : (List Int) × (Int) × (St) → Option ((List Int) × Int × St)) (s : (List Int) × (Int) × (St)) : Option ((List Int) × Int × St) :=
  if (decide (s.2.1 < (r7.length : Int))) = true then
  (ix r7 s.2.1) >>= fun x19 =>
  p0 >>= fun i21 =>
  (s.2.2.t_disk_Disk[i21]?) >>= fun o22 =>
  ((mapGet .str (.ptr T_disk_file) x19 o22.2.1).getD (zeroK (.ptr T_disk_file))) >>= fun i24 =>
  (s.2.2.t_disk_file[i24]?) >>= fun o25 =>
  ((mapGet .str (.ptr T_disk_file) x19 o22.2.1).getD (zeroK (.ptr T_disk_file))) >>= fun i26 =>
  (s.2.2.t_disk_file[i26]?) >>= fun o27 =>
  if ((IntKind.wrap .i64 ((o25.1.length : Int) - o27.2.1)) == 0) = true then
  self (s.1, (IntKind.wrap .i64 (s.2.1 + 1)), s.2.2)
  else
  (if (decide ((s.1.length : Int) > 0)) = true then
  (ix s.1 0) >>= fun x49 =>
  if (IntKind.wrap .i64 ((IntKind.wrap .i64 ((o25.1.length : Int) - o27.2.1)) + 1)) ≠ 0 then
  if (0 : Int) ≤ 1 ∧ 1 ≤ (s.1.length : Int) then
  some (s.1.drop (Int.toNat 1), Int.tmod (if 0 > x49 then 0 else x49) (IntKind.wrap .i64 ((IntKind.wrap .i64 ((o25.1.length : Int) - o27.2.1)) + 1)))
  else none
  else none
  else
  some (s.1, 0) : Option ((List Int) × Int)) >>= fun z35 =>
  ((mapGet .str (.ptr T_disk_file) x19 o22.2.1).getD (zeroK (.ptr T_disk_file))) >>= fun i38 =>
  (s.2.2.t_disk_file[i38]?) >>= fun o39 =>
  ((mapGet .str (.ptr T_disk_file) x19 o22.2.1).getD (zeroK (.ptr T_disk_file))) >>= fun i40 =>
  (s.2.2.t_disk_file[i40]?) >>= fun o41 =>
  if (0 : Int) ≤ (IntKind.wrap .i64 (o41.2.1 + z35.2)) ∧ (IntKind.wrap .i64 (o41.2.1 + z35.2)) ≤ (o39.1.length : Int) then
  ((mapGet .str (.ptr T_disk_file) x19 o22.2.1).getD (zeroK (.ptr T_disk_file))) >>= fun i43 =>
  (s.2.2.t_disk_file[i43]?) >>= fun o44 =>
  ((mapGet .str (.ptr T_disk_file) x19 o22.2.1).getD (zeroK (.ptr T_disk_file))) >>= fun i45 =>
  ((s.2.2.set1_disk_file i43 (o39.1.take (Int.toNat (IntKind.wrap .i64 (o41.2.1 + z35.2))), o44.2.1, ())).t_disk_file[i45]?) >>= fun o46 =>
  ((mapGet .str (.ptr T_disk_file) x19 o22.2.1).getD (zeroK (.ptr T_disk_file))) >>= fun i47 =>
  ((s.2.2.set1_disk_file i43 (o39.1.take (Int.toNat (IntKind.wrap .i64 (o41.2.1 + z35.2))), o44.2.1, ())).t_disk_file[i47]?) >>= fun o48 =>
  self (z35.1, (IntKind.wrap .i64 (s.2.1 + 1)), ((s.2.2.set1_disk_file i43 (o39.1.take (Int.toNat (IntKind.wrap .i64 (o41.2.1 + z35.2))), o44.2.1, ())).set1_disk_file i47 (o48.1, (o46.1.length : Int), ())))
  else none
  else
  some ((s.1, s.2.1, s.2.2))
theorem st_27_l0 (p0 : Option Nat) (r7 : List (List UInt8)) (self : (List Int) × (Int) × (St) → Option ((List Int) × Int × St)) (s : (List Int) × (Int) × (St)) : (B_27_l0 p0 r7 self s).map (fun r => r.2.2) = (f_disk_Disk_Crash_l0 p0 r7 s).bind (Sum.elim (fun y => (self y).map (fun r => r.2.2)) some) := by
  unfold B_27_l0 f_disk_Disk_Crash_l0
  repeat' (first | rfl | refine bmd fun _ => ?_ | refine bmb fun _ => ?_ | refine itm Iff.rfl (fun _ => ?_) (fun _ => ?_))
theorem lp_27_l0 (p0 : Option Nat) (r7 : List (List UInt8)) (s : (List Int) × (Int) × (St)) : loopM (f_disk_Disk_Crash_l0 p0 r7) s = (f27_l0 p0 r7 s.1 s.2.1 s.2.2).map (fun r => r.2.2) :=
  loop_eq (g := fun s => f27_l0 p0 r7 s.1 s.2.1 s.2.2) (B_27_l0 p0 r7) (st_27_l0 p0 r7) (fun s => by show f27_l0 p0 r7 s.1 s.2.1 s.2.2 = _; rw [f27_l0]; rfl)
    (fun M h s r => f27_l0.partial_correctness p0 r7 (fun a0 a1 a2 r => M (a0, a1, a2) r) (fun self ih a0 a1 a2 r hx => h (fun s => self s.1 s.2.1 s.2.2) (fun s r hr => ih s.1 s.2.1 s.2.2 r hr) (a0, a1, a2) r hx) s.1 s.2.1 s.2.2 r) s
theorem eq_27 : f_disk_Disk_Crash = f27 := by
  funext p0 p1 σ
  unfold f_disk_Disk_Crash f27
  simp only [lp_27_l0]
  split
  · rfl
  refine bbb fun r => ?_
  refine map_bind_eq fun z => ?_
  cases p0 <;> rfl
theorem eq_77 : f_disk_Disk_find = f77 := by
  funext p x σ
  unfold f_disk_Disk_find f77
  rw [eq_70]
  refine bbb fun r => ?_
  split
  · rfl
  · exact bbb fun i => bbd fun o => rfl
theorem eq_28 : f_disk_Disk_Read = f28 := by
  funext a0 a1 a2
  unfold f_disk_Disk_Read f28
  try simp only [eq_18, eq_70, eq_71, eq_24, eq_27, eq_77]
  rfl
theorem eq_31 : f_disk_Disk_Down = f31 := by
  funext p σ
  unfold f_disk_Disk_Down f31
  cases p <;> simp
theorem eq_78 : f_disk_Disk_Sync_1 = f78 := by
  funext c σ
  unfold f_disk_Disk_Sync_1 f78
  cases h : σ.t_c_t91[c]? <;> simp [St.set_disk_file, St.set1_disk_file]
theorem eq_w78 : f_disk_Disk_write_disk_Disk_Sync_1 = fun p x => f72 p (f78 x.1) := by
  funext p x σ
  unfold f_disk_Disk_write_disk_Disk_Sync_1
  rw [eq_78]; rfl
theorem eq_33 : f_disk_Disk_Sync = f33 := by
  funext p x σ
  unfold f_disk_Disk_Sync f33
  simp only [eq_77, eq_w78]
  cases h : f77 p x σ <;> simp [St.set_c_t91, St.add_c_t91, St.set1_c_t91]
theorem eq_79 : f_disk_Disk_Truncate_1 = f79 := by
  funext c d σ
  unfold f_disk_Disk_Truncate_1 f79
  cases h : σ.t_c_t91[c]? with
  | none => simp
  | some o =>
    obtain ⟨q, _⟩ := o
    cases q with
    | none => simp
    | some i =>
      cases h2 : σ.t_disk_file[i]? with
      | none => simp [h2]
      | some f =>
        cases h3 : σ.t_c_t3[d]? with
        | none => simp [h2]
        | some y => simp [h2, St.set_disk_file, St.set1_disk_file]
theorem eq_w79 : f_disk_Disk_write_disk_Disk_Truncate_1 = fun p x => f72 p (f79 x.1 x.2.1) := by
  funext p x σ
  unfold f_disk_Disk_write_disk_Disk_Truncate_1
  rw [eq_79]; rfl
theorem eq_35 : f_disk_Disk_Truncate = f35 := by
  funext p x y σ
  unfold f_disk_Disk_Truncate f35
  simp only [eq_77, eq_w79]
  show (f77 p x (σ.add_c_t3 (y, ()))).bind _ = _
  cases h : f77 p x (σ.add_c_t3 (y, ())) <;> simp [St.set_c_t91, St.add_c_t91, St.set1_c_t91, St.set_c_t3, St.add_c_t3]
  split
  · by_cases h5 : y < 0
    · rw [if_neg (by omega), if_pos h5]
    · rw [if_pos (by omega), if_neg h5]
  · rfl
theorem eq_81 : f_disk_Disk_Remove_1 = f81 := by
  funext c d σ
  unfold f_disk_Disk_Remove_1 f81
  refine bbb fun o => bbb fun i => ?_
  cases h : σ.t_disk_Disk[i]? with
  | none => simp
  | some o3 => simp [St.set_disk_Disk, St.set1_disk_Disk]
theorem eq_w81 : f_disk_Disk_write_disk_Disk_Remove_1 = fun p x => f72 p (f81 x.1 x.2.1) := by
  funext p x σ
  unfold f_disk_Disk_write_disk_Disk_Remove_1
  rw [eq_81]; rfl
theorem eq_37 : f_disk_Disk_Remove = f37 := by
  funext p x σ
  unfold f_disk_Disk_Remove f37
  simp only [eq_77, eq_w81, List.getElem?_concat_length, Option.bind_some]
  rfl
noncomputable def B_95_l0 (p0 : List UInt8) (self : (Int) → Option (Sum Int Bool)) (s : (Int)) : Option (Sum Int Bool) :=
  if (decide (s < (p0.length : Int))) = true then
  if (0 : Int) ≤ s ∧ s < (p0.length : Int) then
  if (decide ((btS p0 s) < 97)) = true then
  some (.inr false)
  else
  if (0 : Int) ≤ s ∧ s < (p0.length : Int) then
  if (decide ((btS p0 s) > 122)) = true then
  some (.inr false)
  else
  self (IntKind.wrap .i64 (s + 1))
  else none
  else none
  else
  some (.inl s)
theorem st_95_l0 (p0 : List UInt8) (self : (Int) → Option (Sum Int Bool)) (s : (Int)) : (B_95_l0 p0 self s).map (Sum.map (fun _ => ()) id) = (f_wal_named_l0 p0 s).bind (Sum.elim (fun y => (self y).map (Sum.map (fun _ => ()) id)) some) := by
  unfold B_95_l0 f_wal_named_l0
  repeat' (first | rfl | refine bmd fun _ => ?_ | refine bmb fun _ => ?_ | refine itm Iff.rfl (fun _ => ?_) (fun _ => ?_))
  rename_i h1 h2
  by_cases h3 : btS p0 s < 97
  · simp [h3]
  · simp only [h3, decide_false, Bool.false_eq_true, if_false, Bool.not_false, h2, and_self, implies_true, if_true, Bool.false_or]
    repeat' (first | rfl | refine bmd fun _ => ?_ | refine bmb fun _ => ?_ | refine itm Iff.rfl (fun _ => ?_) (fun _ => ?_))
theorem lp_95_l0 (p0 : List UInt8) (s : (Int)) : loopM (f_wal_named_l0 p0) s = (f95_l0 p0 s).map (Sum.map (fun _ => ()) id) :=
  loop_eq (g := fun s => f95_l0 p0 s) (B_95_l0 p0) (st_95_l0 p0) (fun s => by show f95_l0 p0 s = _; rw [f95_l0]; rfl)
    (fun M h s r => f95_l0.partial_correctness p0 (fun a0 r => M (a0) r) (fun self ih a0 r hx => h (fun s => self s) (fun s r hr => ih s r hr) (a0) r hx) s r) s
theorem eq_95 : f_wal_named = f95 := by
  funext p0
  unfold f_wal_named f95
  rw [lp_95_l0]
  cases f95_l0 p0 0 with
  | none => rfl
  | some x => cases x <;> rfl
noncomputable def B_140_l0 (p0 : List UInt8) (self : (Int) × (Int) → Option (Sum (Int × Int) Int)) (s : (Int) × (Int)) : Option (Sum (Int × Int) Int) :=
  if (decide (s.2 < (p0.length : Int))) = true then
  if (0 : Int) ≤ s.2 ∧ s.2 < (p0.length : Int) then
  if (decide ((btS p0 s.2) < 48)) = true then
  some (.inr (-1))
  else
  if (0 : Int) ≤ s.2 ∧ s.2 < (p0.length : Int) then
  if ((decide ((btS p0 s.2) > 57)) || (decide (s.1 > 1099511627776))) = true then
  some (.inr (-1))
  else
  if (0 : Int) ≤ s.2 ∧ s.2 < (p0.length : Int) then
  self ((IntKind.wrap .i64 ((IntKind.wrap .i64 (s.1 * 10)) + (IntKind.wrap .i64 (IntKind.wrap .u8 ((btS p0 s.2) - 48))))), (IntKind.wrap .i64 (s.2 + 1)))
  else none
  else none
  else none
  else
  some (.inl (s.1, s.2))
theorem st_140_l0 (p0 : List UInt8) (self : (Int) × (Int) → Option (Sum (Int × Int) Int)) (s : (Int) × (Int)) : (B_140_l0 p0 self s).map (Sum.map (fun r => r.1) id) = (f_wal_number_l0 p0 s).bind (Sum.elim (fun y => (self y).map (Sum.map (fun r => r.1) id)) some) := by
  unfold B_140_l0 f_wal_number_l0
  repeat' (first | rfl | refine bmd fun _ => ?_ | refine bmb fun _ => ?_ | refine itm Iff.rfl (fun _ => ?_) (fun _ => ?_))
  rename_i h1 h2
  by_cases h3 : btS p0 s.2 < 48
  · simp [h3]
  · simp only [h3, decide_false, Bool.false_eq_true, if_false, Bool.not_false, h2, and_self, implies_true, if_true, Bool.false_or]
    repeat' (first | rfl | refine bmd fun _ => ?_ | refine bmb fun _ => ?_ | refine itm Iff.rfl (fun _ => ?_) (fun _ => ?_))
theorem lp_140_l0 (p0 : List UInt8) (s : (Int) × (Int)) : loopM (f_wal_number_l0 p0) s = (f140_l0 p0 s.1 s.2).map (Sum.map (fun r => r.1) id) :=
  loop_eq (g := fun s => f140_l0 p0 s.1 s.2) (B_140_l0 p0) (st_140_l0 p0) (fun s => by show f140_l0 p0 s.1 s.2 = _; rw [f140_l0]; rfl)
    (fun M h s r => f140_l0.partial_correctness p0 (fun a0 a1 r => M (a0, a1) r) (fun self ih a0 a1 r hx => h (fun s => self s.1 s.2) (fun s r hr => ih s.1 s.2 r hr) (a0, a1) r hx) s.1 s.2 r) s
theorem eq_140 : f_wal_number = f140 := by
  funext p0
  unfold f_wal_number f140
  rw [lp_140_l0]
  refine map_bind_eq fun x => ?_
  cases x with
  | inr y => rfl
  | inl y =>
    show (if _ then _ else _) = _
    cases h : p0 == [] with
    | true => simp
    | false => simp [sumO]
theorem eq_97 : f_wal_Log_last = f97 := by
  funext p σ
  unfold f_wal_Log_last f97
  rcases p with _ | i
  · rfl
  cases h2 : σ.t_wal_Log[i]? with
  | none => simp [h2]
  | some o => simp [h2]
theorem eq_55 : f_wal_Log_Next = f55 := by
  funext p σ
  unfold f_wal_Log_Next f55
  rw [eq_97]
  rcases p with _ | i
  · rfl
  cases h2 : σ.t_wal_Log[i]? with
  | none => simp [h2]
  | some o =>
    simp only [Option.isNone_some, Bool.not_false, if_true, Option.bind_some, h2, Bool.false_or, Bool.false_eq_true, if_false]
    show _ = Option.bind (some i) fun i => Option.bind σ.t_wal_Log[i]? fun o => _
    simp only [Option.bind_some, h2]
    split
    · rfl
    refine bbb fun r => ?_
    cases r with
    | none => rfl
    | some j => exact bbd fun _ => rfl
theorem eq_98 : f_wal_Log_file = f98 := by
  funext a0 a1 a2
  unfold f_wal_Log_file f98
  try simp only [eq_18, eq_70, eq_71, eq_24, eq_27, eq_77, eq_28, eq_31, eq_32, eq_33, eq_35, eq_37, eq_95, eq_140, eq_97, eq_55]
  rfl
theorem eq_61 : f_wal_Log_Sync = f61 := by
  funext p0 σ
  unfold f_wal_Log_Sync f61
  simp only [eq_98, eq_33, eq_97, eq_55]
  rcases p0 with _ | i
  · rfl
  refine itb Iff.rfl (fun _ => rfl) fun _ => bbb fun r7 => ?_
  by_cases h : (!r7.isNone) = true
  · simp only [if_pos h]
    show (Option.bind (Option.bind (some i) _) _) = Option.bind (some i) _
    simp only [Option.bind_some, Option.bind_assoc]
    refine bbb fun o => bbb fun r12 => bbb fun r13 => ?_
    by_cases h2 : (r13.1 != 0) = true
    · simp only [if_pos h2]; rfl
    · simp only [if_neg h2]; rfl
  · simp only [if_neg h]; rfl
theorem eq_110 : f_check_bytes = f110 := by
  funext a0
  unfold f_check_bytes f110
  try simp only [eq_18, eq_70, eq_71, eq_24, eq_27, eq_77, eq_28, eq_31, eq_32, eq_33, eq_35, eq_37, eq_95, eq_140, eq_97, eq_55, eq_98, eq_61]
  rfl
noncomputable def B_151_l0  (self : (Int) × (Int) → Option (Int × Int)) (s : (Int) × (Int)) : Option (Int × Int) :=
  if (decide (s.2 < 8)) = true then
  if ((IntKind.wrap .u32 ((BitVec.ofInt (IntKind.bits .u32) s.1 &&& BitVec.ofInt (IntKind.bits .u32) 1).toNat)) == 1) = true then
  self ((IntKind.wrap .u32 ((BitVec.ofInt (IntKind.bits .u32) (Int.fdiv s.1 (2 ^ 1)) ^^^ BitVec.ofInt (IntKind.bits .u32) 2197175160).toNat)), (IntKind.wrap .i64 (s.2 + 1)))
  else
  self ((Int.fdiv s.1 (2 ^ 1)), (IntKind.wrap .i64 (s.2 + 1)))
  else
  some ((s.1, s.2))
theorem st_151_l0  (self : (Int) × (Int) → Option (Int × Int)) (s : (Int) × (Int)) : (B_151_l0  self s).map (fun r => r.1) = (f_check_through_l0 s).bind (Sum.elim (fun y => (self y).map (fun r => r.1)) some) := by
  unfold B_151_l0 f_check_through_l0
  repeat' (first | rfl | refine bmd fun _ => ?_ | refine bmb fun _ => ?_ | refine itm Iff.rfl (fun _ => ?_) (fun _ => ?_))
theorem lp_151_l0  (s : (Int) × (Int)) : loopM (f_check_through_l0) s = (f151_l0 s.1 s.2).map (fun r => r.1) :=
  loop_eq (g := fun s => f151_l0 s.1 s.2) (B_151_l0 ) (st_151_l0 ) (fun s => by show f151_l0 s.1 s.2 = _; rw [f151_l0]; rfl)
    (fun M h s r => f151_l0.partial_correctness  (fun a0 a1 r => M (a0, a1) r) (fun self ih a0 a1 r hx => h (fun s => self s.1 s.2) (fun s r hr => ih s.1 s.2 r hr) (a0, a1) r hx) s.1 s.2 r) s
theorem eq_151 : f_check_through = f151 := by
  funext p0 p1
  unfold f_check_through f151
  rw [lp_151_l0]
  show Option.bind (Option.map _ (f151_l0 (IntKind.wrap .u32 ((BitVec.ofInt (IntKind.bits .u32) p0 ^^^ BitVec.ofInt (IntKind.bits .u32) (IntKind.wrap .u32 (p1))).toNat)) 0)) _ = _
  cases f151_l0 (IntKind.wrap .u32 ((BitVec.ofInt (IntKind.bits .u32) p0 ^^^ BitVec.ofInt (IntKind.bits .u32) (IntKind.wrap .u32 (p1))).toNat)) 0 <;> rfl
noncomputable def B_138_l0 (p1 : List UInt8) (self : (Int) × (Int) → Option (Int × Int)) (s : (Int) × (Int)) : Option (Int × Int) :=
  if (decide (s.2 < (p1.length : Int))) = true then
  if (0 : Int) ≤ s.2 ∧ s.2 < (p1.length : Int) then
  f151 s.1 (btS p1 s.2) >>= fun r16 =>
  self (r16, (IntKind.wrap .i64 (s.2 + 1)))
  else none
  else
  some ((s.1, s.2))
theorem st_138_l0 (p1 : List UInt8) (self : (Int) × (Int) → Option (Int × Int)) (s : (Int) × (Int)) : (B_138_l0 p1 self s).map (fun r => r.1) = (f_check_More_l0 p1 s).bind (Sum.elim (fun y => (self y).map (fun r => r.1)) some) := by
  unfold B_138_l0 f_check_More_l0
  rw [eq_151]
  repeat' (first | rfl | refine bmd fun _ => ?_ | refine bmb fun _ => ?_ | refine itm Iff.rfl (fun _ => ?_) (fun _ => ?_))
theorem lp_138_l0 (p1 : List UInt8) (s : (Int) × (Int)) : loopM (f_check_More_l0 p1) s = (f138_l0 p1 s.1 s.2).map (fun r => r.1) :=
  loop_eq (g := fun s => f138_l0 p1 s.1 s.2) (B_138_l0 p1) (st_138_l0 p1) (fun s => by show f138_l0 p1 s.1 s.2 = _; rw [f138_l0]; rfl)
    (fun M h s r => f138_l0.partial_correctness p1 (fun a0 a1 r => M (a0, a1) r) (fun self ih a0 a1 r hx => h (fun s => self s.1 s.2) (fun s r hr => ih s.1 s.2 r hr) (a0, a1) r hx) s.1 s.2 r) s
theorem eq_138 : f_check_More = f138 := by
  funext p0 p1
  unfold f_check_More f138
  rw [lp_138_l0]
  exact map_bind_eq fun _ => rfl
theorem eq_111 : f_check_Sum = f111 := by
  funext a0
  unfold f_check_Sum f111
  try simp only [eq_18, eq_70, eq_71, eq_24, eq_27, eq_77, eq_28, eq_31, eq_32, eq_33, eq_35, eq_37, eq_95, eq_140, eq_97, eq_55, eq_98, eq_61, eq_110, eq_151, eq_138]
  rfl
theorem eq_108 : f_check_Open = f108 := by
  funext a0
  unfold f_check_Open f108
  try simp only [eq_18, eq_70, eq_71, eq_24, eq_27, eq_77, eq_28, eq_31, eq_32, eq_33, eq_35, eq_37, eq_95, eq_140, eq_97, eq_55, eq_98, eq_61, eq_110, eq_151, eq_138, eq_111]
  rfl
noncomputable def B_113_l0 (p0 : List UInt8) (p1 : Int) (self : (Int) × (Int) → Option (Sum (Int × Int) (Int × Int × Int))) (s : (Int) × (Int)) : Option (Sum (Int × Int) (Int × Int × Int)) :=
  if (decide ((IntKind.wrap .i64 (p1 + s.2)) < (p0.length : Int))) = true then
  if (0 : Int) ≤ (IntKind.wrap .i64 (p1 + s.2)) ∧ (IntKind.wrap .i64 (p1 + s.2)) < (p0.length : Int) then
  if ((s.2 == 9) && (decide ((btS p0 (IntKind.wrap .i64 (p1 + s.2))) > 1))) = true then
  some (.inr (0, 0, 6))
  else
  if (0 : Int) ≤ (IntKind.wrap .i64 (7 * s.2)) then
  if (decide ((btS p0 (IntKind.wrap .i64 (p1 + s.2))) ≥ 128)) = true then
  self ((IntKind.wrap .u64 ((BitVec.ofInt (IntKind.bits .u64) s.1 ||| BitVec.ofInt (IntKind.bits .u64) (IntKind.wrap .u64 ((IntKind.wrap .u64 (IntKind.wrap .u8 ((BitVec.ofInt (IntKind.bits .u8) (btS p0 (IntKind.wrap .i64 (p1 + s.2))) &&& BitVec.ofInt (IntKind.bits .u8) 127).toNat))) * 2 ^ (min (Int.toNat (IntKind.wrap .i64 (7 * s.2))) (IntKind.bits .u64))))).toNat)), (IntKind.wrap .i64 (s.2 + 1)))
  else
  if (((btS p0 (IntKind.wrap .i64 (p1 + s.2))) == 0) && (decide (s.2 > 0))) = true then
  some (.inr (0, 0, 6))
  else
  (if ((IntKind.wrap .u64 ((BitVec.ofInt (IntKind.bits .u64) (IntKind.wrap .u64 ((BitVec.ofInt (IntKind.bits .u64) s.1 ||| BitVec.ofInt (IntKind.bits .u64) (IntKind.wrap .u64 ((IntKind.wrap .u64 (IntKind.wrap .u8 ((BitVec.ofInt (IntKind.bits .u8) (btS p0 (IntKind.wrap .i64 (p1 + s.2))) &&& BitVec.ofInt (IntKind.bits .u8) 127).toNat))) * 2 ^ (min (Int.toNat (IntKind.wrap .i64 (7 * s.2))) (IntKind.bits .u64))))).toNat)) &&& BitVec.ofInt (IntKind.bits .u64) 1).toNat)) == 1) = true then
  some (IntKind.wrap .i64 ((BitVec.ofInt (IntKind.bits .i64) (if IntKind.signed .i64 = true then -1 else IntKind.max .i64) ^^^ BitVec.ofInt (IntKind.bits .i64) (IntKind.wrap .i64 (Int.fdiv (IntKind.wrap .u64 ((BitVec.ofInt (IntKind.bits .u64) s.1 ||| BitVec.ofInt (IntKind.bits .u64) (IntKind.wrap .u64 ((IntKind.wrap .u64 (IntKind.wrap .u8 ((BitVec.ofInt (IntKind.bits .u8) (btS p0 (IntKind.wrap .i64 (p1 + s.2))) &&& BitVec.ofInt (IntKind.bits .u8) 127).toNat))) * 2 ^ (min (Int.toNat (IntKind.wrap .i64 (7 * s.2))) (IntKind.bits .u64))))).toNat)) (2 ^ 1)))).toNat))
  else
  some (IntKind.wrap .i64 (Int.fdiv (IntKind.wrap .u64 ((BitVec.ofInt (IntKind.bits .u64) s.1 ||| BitVec.ofInt (IntKind.bits .u64) (IntKind.wrap .u64 ((IntKind.wrap .u64 (IntKind.wrap .u8 ((BitVec.ofInt (IntKind.bits .u8) (btS p0 (IntKind.wrap .i64 (p1 + s.2))) &&& BitVec.ofInt (IntKind.bits .u8) 127).toNat))) * 2 ^ (min (Int.toNat (IntKind.wrap .i64 (7 * s.2))) (IntKind.bits .u64))))).toNat)) (2 ^ 1))) : Option Int) >>= fun z33 =>
  some (.inr (z33, IntKind.wrap .i64 ((IntKind.wrap .i64 (p1 + s.2)) + 1), 0))
  else none
  else none
  else
  some (.inl (s.1, s.2))
theorem st_113_l0 (p0 : List UInt8) (p1 : Int) (self : (Int) × (Int) → Option (Sum (Int × Int) (Int × Int × Int))) (s : (Int) × (Int)) : (B_113_l0 p0 p1 self s).map (Sum.map (fun _ => ()) id) = (f_varint_ReadNumber_l0 p0 p1 s).bind (Sum.elim (fun y => (self y).map (Sum.map (fun _ => ()) id)) some) := by
  unfold B_113_l0 f_varint_ReadNumber_l0
  repeat' (first | rfl | refine bmd fun _ => ?_ | refine bmb fun _ => ?_ | refine itm Iff.rfl (fun _ => ?_) (fun _ => ?_))
theorem lp_113_l0 (p0 : List UInt8) (p1 : Int) (s : (Int) × (Int)) : loopM (f_varint_ReadNumber_l0 p0 p1) s = (f113_l0 p0 p1 s.1 s.2).map (Sum.map (fun _ => ()) id) :=
  loop_eq (g := fun s => f113_l0 p0 p1 s.1 s.2) (B_113_l0 p0 p1) (st_113_l0 p0 p1) (fun s => by show f113_l0 p0 p1 s.1 s.2 = _; rw [f113_l0]; rfl)
    (fun M h s r => f113_l0.partial_correctness p0 p1 (fun a0 a1 r => M (a0, a1) r) (fun self ih a0 a1 r hx => h (fun s => self s.1 s.2) (fun s r hr => ih s.1 s.2 r hr) (a0, a1) r hx) s.1 s.2 r) s
theorem eq_113 : f_varint_ReadNumber = f113 := by
  funext p0 p1
  unfold f_varint_ReadNumber f113
  simp only [lp_113_l0]
  split
  · rfl
  refine map_bind_eq fun x => ?_
  cases x <;> rfl
noncomputable def B_90_l0  (self : (Int) × (K_t144.den) × (Int) → Option (K_t144.den × Int × Int)) (s : (Int) × (K_t144.den) × (Int)) : Option (K_t144.den × Int × Int) :=
  if (decide (s.1 ≥ 128)) = true then
  if (0 : Int) ≤ s.2.2 ∧ s.2.2 < (10 : Nat) then
  self ((Int.fdiv s.1 (2 ^ 7)), (setA K_t144 s.2.1 (Int.toNat s.2.2) (IntKind.wrap .u8 ((BitVec.ofInt (IntKind.bits .u8) (IntKind.wrap .u8 (s.1)) ||| BitVec.ofInt (IntKind.bits .u8) 128).toNat))), (IntKind.wrap .i64 (s.2.2 + 1)))
  else none
  else
  some ((s.2.1, s.1, s.2.2))
theorem st_90_l0  (self : (Int) × (K_t144.den) × (Int) → Option (K_t144.den × Int × Int)) (s : (Int) × (K_t144.den) × (Int)) : (B_90_l0  self s).map (fun r => (r.2.1, r.1, r.2.2)) = (f_varint_Number_l0 s).bind (Sum.elim (fun y => (self y).map (fun r => (r.2.1, r.1, r.2.2))) some) := by
  unfold B_90_l0 f_varint_Number_l0
  repeat' (first | rfl | refine bmd fun _ => ?_ | refine bmb fun _ => ?_ | refine itm Iff.rfl (fun _ => ?_) (fun _ => ?_))
theorem lp_90_l0  (s : (Int) × (K_t144.den) × (Int)) : loopM (f_varint_Number_l0) s = (f90_l0 s.2.1 s.1 s.2.2).map (fun r => (r.2.1, r.1, r.2.2)) :=
  loop_eq (g := fun s => f90_l0 s.2.1 s.1 s.2.2) (B_90_l0 ) (st_90_l0 ) (fun s => by show f90_l0 s.2.1 s.1 s.2.2 = _; rw [f90_l0]; rfl)
    (fun M h s r => f90_l0.partial_correctness  (fun a0 a1 a2 r => M (a1, a0, a2) r) (fun self ih a0 a1 a2 r hx => h (fun s => self s.2.1 s.1 s.2.2) (fun s r hr => ih s.2.1 s.1 s.2.2 r hr) (a1, a0, a2) r hx) s.2.1 s.1 s.2.2 r) s
theorem eq_90 : f_varint_Number = f90 := by
  funext p0
  unfold f_varint_Number f90
  refine bbb fun z => ?_
  rw [lp_90_l0]
  refine map_bind_eq fun z => ?_
  refine itb Iff.rfl (fun h => ?_) (fun _ => rfl)
  refine itb Iff.rfl (fun h2 => ?_) (fun _ => rfl)
  rw [if_pos (by obtain ⟨h3, h4⟩ := h2; omega)]
  rfl
theorem eq_94 : f_wal_one = f94 := by
  funext p0 p1 p2
  unfold f_wal_one f94
  simp only [eq_113, eq_108, eq_90]
  refine bbb fun r3 => itb Iff.rfl (fun _ => rfl) fun _ => itb Iff.rfl (fun _ => ?_) (fun _ => rfl)
  refine bbb fun r9 => itb Iff.rfl (fun _ => rfl) fun _ => bbb fun r14 => ?_
  by_cases h : (r9.1.length : Int) < (r14.length : Int)
  · simp [h]
  · have h1 : (r14.length : Int) ≤ (r9.1.length : Int) := by omega
    simp [h, h1]
noncomputable def B_49_l0 (p0 : List UInt8) (p1 : Int) (self : (List (List UInt8)) × (Int) → Option ((List (List UInt8)) × Int)) (s : (List (List UInt8)) × (Int)) : Option ((List (List UInt8)) × Int) :=
  if (decide (p1 ≥ 0)) = true then
  f94 p0 s.2 (IntKind.wrap .i64 (p1 + (s.1.length : Int))) >>= fun r16 =>
  if (!r16.2.2) = true then
  some ((s.1, s.2))
  else
  if (s.1.length + 1) * 16 ≤ 140737488355328 then
  self ((s.1 ++ [r16.1]), r16.2.1)
  else none
  else
  some ((s.1, s.2))
theorem st_49_l0 (p0 : List UInt8) (p1 : Int) (self : (List (List UInt8)) × (Int) → Option ((List (List UInt8)) × Int)) (s : (List (List UInt8)) × (Int)) : (B_49_l0 p0 p1 self s).map (fun r => r) = (f_wal_Parse_l0 p0 p1 s).bind (Sum.elim (fun y => (self y).map (fun r => r)) some) := by
  unfold B_49_l0 f_wal_Parse_l0
  rw [eq_94]
  repeat' (first | rfl | refine bmd fun _ => ?_ | refine bmb fun _ => ?_ | refine itm Iff.rfl (fun _ => ?_) (fun _ => ?_))
theorem lp_49_l0 (p0 : List UInt8) (p1 : Int) (s : (List (List UInt8)) × (Int)) : loopM (f_wal_Parse_l0 p0 p1) s = (f49_l0 p0 p1 s.1 s.2).map (fun r => r) :=
  loop_eq (g := fun s => f49_l0 p0 p1 s.1 s.2) (B_49_l0 p0 p1) (st_49_l0 p0 p1) (fun s => by show f49_l0 p0 p1 s.1 s.2 = _; rw [f49_l0]; rfl)
    (fun M h s r => f49_l0.partial_correctness p0 p1 (fun a0 a1 r => M (a0, a1) r) (fun self ih a0 a1 r hx => h (fun s => self s.1 s.2) (fun s r hr => ih s.1 s.2 r hr) (a0, a1) r hx) s.1 s.2 r) s
theorem eq_49 : f_wal_Parse = f49 := by
  funext p0 p1
  unfold f_wal_Parse f49
  rw [lp_49_l0]
  exact map_bind_eq fun _ => rfl
theorem eq_115 : f_wal_Log_load = f115 := by
  funext p0 p1 σ
  unfold f_wal_Log_load f115
  simp only [eq_98, eq_28, eq_49]
  cases p0 <;> simp [St.set_wal_segment, St.add_wal_segment, St.set1_wal_segment]
noncomputable def B_96_l0 (p0 : Option Nat) (r3 : List Int) (self : (Int) × (Int) × (Int) × (St) → Option (Sum (Int × Int × Int × St) (Int × St))) (s : (Int) × (Int) × (Int) × (St)) : Option (Sum (Int × Int × Int × St) (Int × St)) :=
  if (decide (s.2.2.1 < (r3.length : Int))) = true then
  (ix r3 s.2.2.1) >>= fun x19 =>
  if (decide (s.2.2.1 > 0)) = true then
  if (decide (s.1 > 0)) = true then
  some (.inl (s.1, s.2.1, s.2.2.1, s.2.2.2))
  else
  f55 p0 s.2.2.2 >>= fun r22 =>
  if (x19 != r22) = true then
  some (.inl (s.1, s.2.1, s.2.2.1, s.2.2.2))
  else
  f115 p0 x19 s.2.2.2 >>= fun r24 =>
  if (r24.1.2.2 != 0) = true then
  some (.inr (r24.1.2.2, r24.2))
  else
  p0 >>= fun i29 =>
  (r24.2.t_wal_Log[i29]?) >>= fun o30 =>
  if (o30.2.2.2.1.length + 1) * 8 ≤ 140737488355328 then
  self (r24.1.2.1, (IntKind.wrap .i64 (s.2.2.1 + 1)), (IntKind.wrap .i64 (s.2.2.1 + 1)), (r24.2.set1_wal_Log i29 (o30.1, o30.2.1, o30.2.2.1, o30.2.2.2.1 ++ [r24.1.1], o30.2.2.2.2.1, ())))
  else none
  else
  f115 p0 x19 s.2.2.2 >>= fun r35 =>
  if (r35.1.2.2 != 0) = true then
  some (.inr (r35.1.2.2, r35.2))
  else
  p0 >>= fun i40 =>
  (r35.2.t_wal_Log[i40]?) >>= fun o41 =>
  if (o41.2.2.2.1.length + 1) * 8 ≤ 140737488355328 then
  self (r35.1.2.1, (IntKind.wrap .i64 (s.2.2.1 + 1)), (IntKind.wrap .i64 (s.2.2.1 + 1)), (r35.2.set1_wal_Log i40 (o41.1, o41.2.1, o41.2.2.1, o41.2.2.2.1 ++ [r35.1.1], o41.2.2.2.2.1, ())))
  else none
  else
  some (.inl (s.1, s.2.1, s.2.2.1, s.2.2.2))
theorem st_96_l0 (p0 : Option Nat) (r3 : List Int) (self : (Int) × (Int) × (Int) × (St) → Option (Sum (Int × Int × Int × St) (Int × St))) (s : (Int) × (Int) × (Int) × (St)) : (B_96_l0 p0 r3 self s).map (Sum.map (fun r => (r.1, r.2.1, r.2.2.2)) id) = (f_wal_Log_recover_l0 p0 r3 s).bind (Sum.elim (fun y => (self y).map (Sum.map (fun r => (r.1, r.2.1, r.2.2.2)) id)) some) := by
  unfold B_96_l0 f_wal_Log_recover_l0
  simp only [eq_55, eq_115]
  refine itm Iff.rfl (fun _ => ?_) (fun _ => rfl)
  refine bmb fun x => ?_
  have tail : ∀ r : ((Option Nat) × Int × Int) × St, Option.map (Sum.map (fun r : Int × Int × Int × St => (r.1, r.2.1, r.2.2.2)) id) (if (r.1.2.2 != 0) = true then some (.inr (r.1.2.2, r.2)) else p0 >>= fun i29 => (r.2.t_wal_Log[i29]?) >>= fun o30 => if (o30.2.2.2.1.length + 1) * 8 ≤ 140737488355328 then self (r.1.2.1, (IntKind.wrap .i64 (s.2.2.1 + 1)), (IntKind.wrap .i64 (s.2.2.1 + 1)), (r.2.set1_wal_Log i29 (o30.1, o30.2.1, o30.2.2.1, o30.2.2.2.1 ++ [r.1.1], o30.2.2.2.2.1, ()))) else none) =
      Option.bind (if (r.1.2.2 != 0) = true then some (.inr (.inr (r.1.2.2, r.2))) else Option.bind p0 fun x5 => Option.bind r.2.t_wal_Log[x5]? fun x6 => if ((x6.2.2.2.1.length + 1) * 8) ≤ 140737488355328 then Option.bind p0 fun x7 => Option.bind r.2.t_wal_Log[x7]? fun x8 => if x5 = x7 ∧ true = true then some (.inl (r.1.2.1, (IntKind.wrap .i64 (s.2.2.1 + 1), (IntKind.wrap .i64 (s.2.2.1 + 1), (r.2.set_wal_Log (r.2.t_wal_Log.set x7 (x8.1, (x8.2.1, (x8.2.2.1, ((x6.2.2.2.1 ++ [r.1.1]), x8.2.2.2.2)))))))))) else none else none) (Sum.elim (fun y => (self y).map (Sum.map (fun r : Int × Int × Int × St => (r.1, r.2.1, r.2.2.2)) id)) some) := by
    intro r
    refine itm Iff.rfl (fun _ => rfl) (fun _ => ?_)
    rcases p0 with _ | i
    · rfl
    show Option.map _ (Option.bind (some i) _) = Option.bind (Option.bind (some i) _) _
    simp only [Option.bind_some]
    cases h : r.2.t_wal_Log[i]? with
    | none => rfl
    | some o =>
      show Option.map _ (ite _ _ _) = Option.bind (ite _ _ _) _
      refine itm Iff.rfl (fun _ => ?_) (fun _ => rfl)
      simp only [and_self, if_true]; rfl
  by_cases h9 : s.2.2.1 > 0
  · by_cases h7 : s.1 > 0
    · simp [h9, h7]
    · simp only [h9, h7, decide_true, decide_false, if_true, Bool.not_false, Bool.and_self, Bool.false_eq_true, if_false, Bool.false_or, Bool.true_and]
      refine bmb fun r22 => itm Iff.rfl (fun _ => rfl) fun _ => ?_
      exact bmb fun r => by have t := tail r; simp only [and_true] at t ⊢; exact t
  · simp only [h9, decide_false, Bool.false_eq_true, if_false, Bool.false_and]
    show Option.map _ (Option.bind _ _) = Option.bind (Option.bind (some 0) _) _
    rw [Option.bind_some]
    exact bmb fun r => by have t := tail r; simp only [and_true] at t ⊢; exact t
theorem lp_96_l0 (p0 : Option Nat) (r3 : List Int) (s : (Int) × (Int) × (Int) × (St)) : loopM (f_wal_Log_recover_l0 p0 r3) s = (f96_l0 p0 r3 s.1 s.2.1 s.2.2.1 s.2.2.2).map (Sum.map (fun r => (r.1, r.2.1, r.2.2.2)) id) :=
  loop_eq (g := fun s => f96_l0 p0 r3 s.1 s.2.1 s.2.2.1 s.2.2.2) (B_96_l0 p0 r3) (st_96_l0 p0 r3) (fun s => by show f96_l0 p0 r3 s.1 s.2.1 s.2.2.1 s.2.2.2 = _; rw [f96_l0]; rfl)
    (fun M h s r => f96_l0.partial_correctness p0 r3 (fun a0 a1 a2 a3 r => M (a0, a1, a2, a3) r) (fun self ih a0 a1 a2 a3 r hx => h (fun s => self s.1 s.2.1 s.2.2.1 s.2.2.2) (fun s r hr => ih s.1 s.2.1 s.2.2.1 s.2.2.2 r hr) (a0, a1, a2, a3) r hx) s.1 s.2.1 s.2.2.1 s.2.2.2 r) s
noncomputable def B_96_l1 (p0 : Option Nat) (r3 : List Int) (z45 : Int × Int × Int × St) (o49 : denFs fs_wal_Log) (self : (Int) × (St) → Option (Sum (Int × St) (Int × St))) (s : (Int) × (St)) : Option (Sum (Int × St) (Int × St)) :=
  if (decide (s.1 ≥ z45.2.1)) = true then
  (ix r3 s.1) >>= fun x62 =>
  f98 p0 (some s.2.t_wal_segment.length) (s.2.add_wal_segment (x62, [], 0, ())) >>= fun r63 =>
  f37 o49.1 r63 (s.2.add_wal_segment (x62, [], 0, ())) >>= fun r64 =>
  if (r64.1 != 0) = true then
  some (.inr (r64.1, r64.2))
  else
  self ((IntKind.wrap .i64 (s.1 - 1)), r64.2)
  else
  some (.inl (s.1, s.2))
theorem st_96_l1 (p0 : Option Nat) (r3 : List Int) (z45 : Int × Int × Int × St) (o49 : denFs fs_wal_Log) (self : (Int) × (St) → Option (Sum (Int × St) (Int × St))) (s : (Int) × (St)) : (B_96_l1 p0 r3 z45 o49 self s).map (Sum.map (fun r => r.2) id) = (f_wal_Log_recover_l1 p0 r3 (z45.1, z45.2.1, z45.2.2.2) o49 s).bind (Sum.elim (fun y => (self y).map (Sum.map (fun r => r.2) id)) some) := by
  unfold B_96_l1 f_wal_Log_recover_l1
  simp only [eq_98, eq_37]
  repeat' (first | rfl | refine bmd fun _ => ?_ | refine bmb fun _ => ?_ | refine itm Iff.rfl (fun _ => ?_) (fun _ => ?_))
theorem lp_96_l1 (p0 : Option Nat) (r3 : List Int) (z45 : Int × Int × Int × St) (o49 : denFs fs_wal_Log) (s : (Int) × (St)) : loopM (f_wal_Log_recover_l1 p0 r3 (z45.1, z45.2.1, z45.2.2.2) o49) s = (f96_l1 p0 r3 z45 o49 s.1 s.2).map (Sum.map (fun r => r.2) id) :=
  loop_eq (g := fun s => f96_l1 p0 r3 z45 o49 s.1 s.2) (B_96_l1 p0 r3 z45 o49) (st_96_l1 p0 r3 z45 o49) (fun s => by show f96_l1 p0 r3 z45 o49 s.1 s.2 = _; rw [f96_l1]; rfl)
    (fun M h s r => f96_l1.partial_correctness p0 r3 z45 o49 (fun a0 a1 r => M (a0, a1) r) (fun self ih a0 a1 r hx => h (fun s => self s.1 s.2) (fun s r hr => ih s.1 s.2 r hr) (a0, a1) r hx) s.1 s.2 r) s
theorem eq_96 : f_wal_Log_recover = f96 := by
  funext p0 σ
  unfold f_wal_Log_recover f96
  simp only [lp_96_l0]
  refine bbb fun r3 => ?_
  refine map_bind_eq fun x => ?_
  cases x with
  | inr y => rfl
  | inl z =>
    rcases p0 with _ | i
    · rfl
    refine bbb fun o => ?_
    show Option.bind (loopM (f_wal_Log_recover_l1 (some i) r3 (z.1, z.2.1, z.2.2.2) o) (_, _)) _ = _
    rw [lp_96_l1]
    refine map_bind_eq fun x => ?_
    cases x with
    | inr y => rfl
    | inl y =>
      refine itb Iff.rfl (fun _ => rfl) fun _ => ?_
      show Option.bind (some i) _ = Option.bind (some i) _
      simp only [Option.bind_some]
      cases h : y.2.t_wal_Log[i]? with
      | none => rfl
      | some q =>
        show Option.bind (ix q.2.2.2.1 _) _ = Option.bind (ix q.2.2.2.1 _) _
        refine bbb fun x75 => itb Iff.rfl (fun _ => ?_) (fun _ => ?_)
        · show Option.bind (f_wal_Log_file _ _ _) _ = _
          simp only [eq_98, eq_35, eq_61]
          rfl
        · simp only [eq_61]; rfl
theorem eq_53 : f_wal_Open = f53 := by
  funext a0 a1 a2 a3
  unfold f_wal_Open f53
  try simp only [eq_18, eq_70, eq_71, eq_24, eq_27, eq_77, eq_28, eq_31, eq_32, eq_33, eq_35, eq_37, eq_95, eq_140, eq_97, eq_55, eq_98, eq_61, eq_110, eq_151, eq_138, eq_111, eq_108, eq_113, eq_90, eq_94, eq_49, eq_115, eq_96]
  rfl
theorem eq_54 : f_wal_Log_First = f54 := by
  funext p σ
  unfold f_wal_Log_First f54
  rcases p with _ | i
  · rfl
  cases h2 : σ.t_wal_Log[i]? with
  | none => simp [h2]
  | some o => simp [h2]
noncomputable def B_58_l0 (p0 : Option Nat) (p1 : Int) (σ : St) (self : (Int) → Option (Int)) (s : (Int)) : Option (Int) :=
  p0 >>= fun i22 =>
  (σ.t_wal_Log[i22]?) >>= fun o23 =>
  (ix o23.2.2.2.1 s) >>= fun x24 =>
  x24 >>= fun i25 =>
  (σ.t_wal_segment[i25]?) >>= fun o26 =>
  if (decide (o26.1 > p1)) = true then
  self (IntKind.wrap .i64 (s - 1))
  else
  some (s)
theorem st_58_l0 (p0 : Option Nat) (p1 : Int) (σ : St) (self : (Int) → Option (Int)) (s : (Int)) : (B_58_l0 p0 p1 σ self s).map (fun r => r) = (f_wal_Log_Read_l0 p0 p1 σ s).bind (Sum.elim (fun y => (self y).map (fun r => r)) some) := by
  unfold B_58_l0 f_wal_Log_Read_l0
  repeat' (first | rfl | refine bmd fun _ => ?_ | refine bmb fun _ => ?_ | refine itm Iff.rfl (fun _ => ?_) (fun _ => ?_))
theorem lp_58_l0 (p0 : Option Nat) (p1 : Int) (σ : St) (s : (Int)) : loopM (f_wal_Log_Read_l0 p0 p1 σ) s = (f58_l0 p0 p1 σ s).map (fun r => r) :=
  loop_eq (g := fun s => f58_l0 p0 p1 σ s) (B_58_l0 p0 p1 σ) (st_58_l0 p0 p1 σ) (fun s => by show f58_l0 p0 p1 σ s = _; rw [f58_l0]; rfl)
    (fun M h s r => f58_l0.partial_correctness p0 p1 σ (fun a0 r => M (a0) r) (fun self ih a0 r hx => h (fun s => self s) (fun s r hr => ih s r hr) (a0) r hx) s r) s
theorem eq_58 : f_wal_Log_Read = f58 := by
  funext p0 p1 σ
  unfold f_wal_Log_Read f58
  simp only [eq_54, eq_55, lp_58_l0, Option.map_id']
  split
  · rfl
  refine bbb fun r6 => ?_
  split
  · rfl
  refine bbb fun r9 => ?_
  split
  · rfl
  refine bbb fun i => bbb fun o => bbb fun z => ?_
  rcases p0 with _ | j
  · rfl
  cases h : σ.t_wal_Log[j]? with
  | none => simp [h]
  | some q => simp [h]
theorem eq_89 : f_check_Seal = f89 := by
  funext a0
  unfold f_check_Seal f89
  try simp only [eq_18, eq_70, eq_71, eq_24, eq_27, eq_77, eq_28, eq_31, eq_32, eq_33, eq_35, eq_37, eq_95, eq_140, eq_97, eq_55, eq_98, eq_61, eq_110, eq_151, eq_138, eq_111, eq_108, eq_113, eq_90, eq_94, eq_49, eq_115, eq_96, eq_53, eq_54, eq_58]
  rfl
theorem eq_99 : f_wal_record = f99 := by
  funext a0 a1
  unfold f_wal_record f99
  try simp only [eq_18, eq_70, eq_71, eq_24, eq_27, eq_77, eq_28, eq_31, eq_32, eq_33, eq_35, eq_37, eq_95, eq_140, eq_97, eq_55, eq_98, eq_61, eq_110, eq_151, eq_138, eq_111, eq_108, eq_113, eq_90, eq_94, eq_49, eq_115, eq_96, eq_53, eq_54, eq_58, eq_89]
  rfl
theorem eq_59 : f_wal_Log_Append = f59 := by
  funext p0 p1 σ
  unfold f_wal_Log_Append f59
  simp only [eq_55, eq_97, eq_61, eq_99, eq_98, eq_24]
  rcases p0 with _ | i
  · rfl
  refine itb Iff.rfl (fun _ => rfl) fun _ => itb Iff.rfl (fun _ => rfl) fun _ => bbb fun r8 => bbb fun r10 => ?_
  cases r10 with
  | none =>
    simp only [Option.isNone_none, Bool.not_true, Bool.false_eq_true, if_false, if_true, Option.bind_assoc]
    refine bbb fun r17 => ?_
    by_cases h : (r17.1 != 0) = true
    · simp only [if_pos h]; rfl
    · simp only [if_neg h, Option.bind_some, sumO]
      refine bbb fun r21 => ?_
      show Option.bind ((r17.2.set_wal_segment (r17.2.t_wal_segment ++ [(r8, [], 0, ())])).t_wal_Log[i]?) _ = Option.bind ((r17.2.set_wal_segment (r17.2.t_wal_segment ++ [(r8, [], 0, ())])).t_wal_Log[i]?) _
      refine bbb fun o25 => bbb fun r26 => bbb fun r27 => itb Iff.rfl (fun _ => rfl) fun _ => ?_
      cases h2 : r27.2.t_wal_segment[r17.2.t_wal_segment.length]? with
      | none => rfl
      | some o31 =>
        have h3 : r17.2.t_wal_segment.length < r27.2.t_wal_segment.length := (List.getElem?_eq_some_iff.1 h2).1
        simp only [Option.bind_some]
        refine itb Iff.rfl (fun _ => ?_) (fun _ => rfl)
        simp only [and_self, if_true, List.getElem?_set_self h3, Option.bind_some]
        show Option.bind r27.2.t_wal_Log[i]? _ = Option.bind r27.2.t_wal_Log[i]? _
        cases h4 : r27.2.t_wal_Log[i]? with
        | none => rfl
        | some o38 =>
          simp only [Option.bind_some]
          refine itb Iff.rfl (fun _ => ?_) (fun _ => rfl)
          rfl
  | some j =>
    simp only [Option.isNone_some, Bool.not_false, Bool.false_eq_true, if_false, if_true, Option.bind_some]
    refine (bbb fun o45 => ?_ : Option.bind σ.t_wal_segment[j]? _ = Option.bind σ.t_wal_segment[j]? _)
    show Option.bind σ.t_wal_Log[i]? _ = Option.bind σ.t_wal_Log[i]? _
    cases h0 : σ.t_wal_Log[i]? with
    | none => rfl
    | some o47 =>
    simp only [Option.bind_some]
    show _ = (if _ then _ else _)
    by_cases hd : decide (o45.2.2.1 ≥ o47.2.2.1) = true
    · simp only [if_pos hd, Option.bind_assoc]
      refine bbb fun r52 => ?_
      by_cases h : (r52.1 != 0) = true
      · simp only [if_pos h]; rfl
      · simp only [if_neg h, Option.bind_some, sumO]
        refine bbb fun r21 => ?_
        refine bbb fun o25 => bbb fun r26 => bbb fun r27 => itb Iff.rfl (fun _ => rfl) fun _ => ?_
        cases h2 : r27.2.t_wal_segment[r52.2.t_wal_segment.length]? with
        | none => rfl
        | some o31 =>
          have h3 : r52.2.t_wal_segment.length < r27.2.t_wal_segment.length := (List.getElem?_eq_some_iff.1 h2).1
          simp only [Option.bind_some]
          refine itb Iff.rfl (fun _ => ?_) (fun _ => rfl)
          simp only [and_self, if_true, List.getElem?_set_self h3, Option.bind_some]
          show Option.bind r27.2.t_wal_Log[i]? _ = Option.bind (Option.bind r27.2.t_wal_Log[i]? _) _
          cases h4 : r27.2.t_wal_Log[i]? with
          | none => rfl
          | some o38 =>
            simp only [Option.bind_some]
            show (if _ then _ else _) = Option.bind (if _ then _ else _) _
            split <;> rfl
    · simp only [if_neg hd, Option.bind_some, sumO]
      refine bbb fun r81 => ?_
      rw [h0]
      simp only [Option.bind_some]
      refine bbb fun r26 => bbb fun r27 => itb Iff.rfl (fun _ => rfl) fun _ => ?_
      cases h2 : r27.2.t_wal_segment[j]? with
      | none => rfl
      | some o31 =>
        have h3 : j < r27.2.t_wal_segment.length := (List.getElem?_eq_some_iff.1 h2).1
        simp only [Option.bind_some]
        refine itb Iff.rfl (fun _ => ?_) (fun _ => rfl)
        simp only [and_self, if_true, List.getElem?_set_self h3, Option.bind_some]
        rfl
end Go.Proofs.YtbnmhjobnepajaaGreat.M


namespace Go.Proofs.YtbnmhjobnepajaaGreat.M

theorem wrap_id {x : Int} (h1 : -9223372036854775808 ≤ x) (h2 : x < 9223372036854775808) : IntKind.wrap .i64 x = x := by
  rw [IntKind.wrap_i64]; omega

def okc (c : UInt8) : Bool := (97 ≤ c.toNat && c.toNat ≤ 122) || (48 ≤ c.toNat && c.toNat ≤ 57) || c.toNat == 46 || c.toNat == 45 || c.toNat == 95

def okName (s : List UInt8) : Bool := s.all okc && (0 < s.length && s.length ≤ 24)

theorem btS_at {s : List UInt8} {n : Nat} (h : n < s.length) : btS s (n : Int) = (s[n].toNat : Int) := by
  simp [btS, h]

theorem f71_loop (s : List UInt8) (hs : s.length < 9223372036854775808) : ∀ (k n : Nat), n + k = s.length → f71_l0 s (n : Int) = some (cond ((s.drop n).all okc) (.inl (s.length : Int)) (.inr false))
  | 0, n, h => by
    rw [f71_l0]
    have : n = s.length := by omega
    subst this
    simp
  | k + 1, n, h => by
    rw [f71_l0]
    have hn : n < s.length := by omega
    have ih := f71_loop s hs k (n + 1) (by omega)
    have hw : IntKind.wrap .i64 ((n : Int) + 1) = ((n + 1 : Nat) : Int) := by rw [wrap_id (by omega) (by omega)]; omega
    rw [btS_at hn, hw, ih]
    have hd : s.drop n = s[n] :: s.drop (n + 1) := by simp
    rw [hd]
    simp only [List.all_cons]
    have h1 : ((n : Int) < (s.length : Int)) := by omega
    have h0 : (0 : Int) ≤ (n : Int) := by omega
    simp only [h1, h0, decide_true, if_true, and_self]
    by_cases hc : okc s[n] = true
    · have : ((((((decide ((s[n].toNat : Int) < 97)) || (decide ((s[n].toNat : Int) > 122))) && ((decide ((s[n].toNat : Int) < 48)) || (decide ((s[n].toNat : Int) > 57)))) && ((s[n].toNat : Int) != 46)) && ((s[n].toNat : Int) != 45)) && ((s[n].toNat : Int) != 95)) = false := by
        unfold okc at hc
        simp only [Bool.or_eq_true, Bool.and_eq_true, decide_eq_true_eq, beq_iff_eq] at hc
        rw [Bool.eq_false_iff]
        simp only [ne_eq, Bool.and_eq_true, Bool.or_eq_true, decide_eq_true_eq, bne_iff_ne]
        omega
      rw [this, hc]
      simp
    · have : ((((((decide ((s[n].toNat : Int) < 97)) || (decide ((s[n].toNat : Int) > 122))) && ((decide ((s[n].toNat : Int) < 48)) || (decide ((s[n].toNat : Int) > 57)))) && ((s[n].toNat : Int) != 46)) && ((s[n].toNat : Int) != 45)) && ((s[n].toNat : Int) != 95)) = true := by
        unfold okc at hc
        simp only [Bool.or_eq_true, Bool.and_eq_true, decide_eq_true_eq, beq_iff_eq] at hc
        simp only [Bool.and_eq_true, Bool.or_eq_true, decide_eq_true_eq, bne_iff_ne]
        omega
      rw [this]
      simp only [Bool.not_eq_true] at hc
      rw [hc]
      simp

theorem f71_eq (s : List UInt8) (hs : s.length < 9223372036854775808) : f71 s = some (okName s) := by
  unfold f71
  rw [show (0 : Int) = ((0 : Nat) : Int) from rfl, f71_loop s hs s.length 0 (by omega)]
  simp only [List.drop_zero]
  unfold okName
  by_cases h : s.all okc = true
  · rw [h]; simp
    congr 1
    exact decide_eq_decide.2 (by omega)
  · simp only [Bool.not_eq_true] at h
    rw [h]; simp
theorem ix_at {α : Type} {l : List α} {n : Nat} (h : n < l.length) : ix l (n : Int) = some l[n] := by
  simp [ix, h]

end Go.Proofs.YtbnmhjobnepajaaGreat.M


namespace Go.Proofs.YtbnmhjobnepajaaGreat.M

theorem w8 (x : Int) : IntKind.wrap .u8 x = x % 256 := by simp [IntKind.wrap, IntKind.bits, IntKind.signed]
theorem w64 (x : Int) : IntKind.wrap .u64 x = x % 18446744073709551616 := by simp [IntKind.wrap, IntKind.bits, IntKind.signed]

theorem or128_fin : ∀ b : Fin 256, ((BitVec.ofNat 8 b.val) ||| (BitVec.ofNat 8 128)).toNat = b.val % 128 + 128 := by decide +kernel
theorem and127_fin : ∀ b : Fin 256, ((BitVec.ofNat 8 b.val) &&& (BitVec.ofNat 8 127)).toNat = b.val % 128 := by decide +kernel

theorem ofInt_nat (w m : Nat) : BitVec.ofInt w (m : Int) = BitVec.ofNat w m := by
  apply BitVec.eq_of_toNat_eq
  simp

theorem or128 (x : Nat) : IntKind.wrap .u8 (((BitVec.ofInt (IntKind.bits .u8) (IntKind.wrap .u8 (x : Int)) ||| BitVec.ofInt (IntKind.bits .u8) 128).toNat : Nat) : Int) = ((x % 128 + 128 : Nat) : Int) := by
  have e1 : IntKind.wrap .u8 (x : Int) = ((x % 256 : Nat) : Int) := by rw [w8]; omega
  have h : (BitVec.ofInt 8 ((x % 256 : Nat) : Int) ||| BitVec.ofInt 8 128).toNat = x % 256 % 128 + 128 := by
    rw [ofInt_nat]; exact or128_fin ⟨x % 256, Nat.mod_lt _ (by decide)⟩
  have h2 : (BitVec.ofInt (IntKind.bits .u8) ((x % 256 : Nat) : Int) ||| BitVec.ofInt (IntKind.bits .u8) 128).toNat = x % 256 % 128 + 128 := h
  rw [e1, h2, w8]
  omega

theorem and127 {c : Nat} (hc : c < 256) : IntKind.wrap .u8 (((BitVec.ofInt (IntKind.bits .u8) (c : Int) &&& BitVec.ofInt (IntKind.bits .u8) 127).toNat : Nat) : Int) = ((c % 128 : Nat) : Int) := by
  have h : (BitVec.ofInt 8 (c : Int) &&& BitVec.ofInt 8 127).toNat = c % 128 := by
    rw [ofInt_nat]; exact and127_fin ⟨c, hc⟩
  have h2 : (BitVec.ofInt (IntKind.bits .u8) (c : Int) &&& BitVec.ofInt (IntKind.bits .u8) 127).toNat = c % 128 := h
  rw [h2, w8]
  omega

def vbI (u : Nat) : List Int := if u < 128 then [(u : Int)] else ((u % 128 + 128 : Nat) : Int) :: vbI (u / 128)
  termination_by u
  decreasing_by omega

theorem vbI_small {u : Nat} (h : u < 128) : vbI u = [(u : Int)] := by rw [vbI, if_pos h]
theorem vbI_big {u : Nat} (h : ¬ u < 128) : vbI u = ((u % 128 + 128 : Nat) : Int) :: vbI (u / 128) := by rw [vbI, if_neg h]

theorem arrL_set : ∀ {n : Nat} {k : Kd} {x : k.den} {i : Nat} {z : Int}, isArr n k = true → i < n → arrL k (setA k x i z) = (arrL k x).set i z
  | 0, _, _, _, _, _, h => by omega
  | n + 1, k, x, i, z, hk, h => by
    unfold isArr at hk
    split at hk
    · rename_i h0; cases h0
    · rename_i m b h0
      cases h0
      cases i with
      | zero => simp [setA, arrL]
      | succ i =>
        have ih := arrL_set (x := x.2) (i := i) (z := z) hk (by omega)
        simp [setA, arrL, ih]
    · cases hk

theorem arrL_len : ∀ {n : Nat} {k : Kd} {x : k.den}, isArr n k = true → (arrL k x).length = n
  | 0, k, x, hk => by
    cases k <;> simp [isArr] at hk
    rfl
  | n + 1, k, x, hk => by
    unfold isArr at hk
    split at hk
    · rename_i h0; cases h0
    · rename_i m b h0
      cases h0
      have ih := arrL_len (x := x.2) hk
      simp [arrL, ih]
    · cases hk

theorem take_set {α : Type} {l : List α} {n : Nat} (h : n < l.length) (z : α) : (l.set n z).take (n + 1) = l.take n ++ [z] := by
  rw [List.take_set, List.take_succ_eq_append_getElem h]
  rw [List.set_append_right _ _ (by simp; omega)]
  have : n - (l.take n).length = 0 := by simp; omega
  rw [this]
  rfl

theorem f90_walk : ∀ (k x n : Nat) (y : K_t144.den) (pre : List Int), x < 128 ^ (k + 1) → n + k < 10 → (arrL K_t144 y).take n = pre →
    ∃ y2 : K_t144.den, ∃ x2 n2 : Nat, f90_l0 y (x : Int) (n : Int) = some (y2, (x2 : Int), (n2 : Int)) ∧ n2 < 10 ∧ x2 < 128 ∧ pre ++ vbI x = (arrL K_t144 y2).take n2 ++ [(x2 : Int)]
  | k, x, n, y, pre, hx, hn, hp => by
    rw [f90_l0]
    by_cases c : x < 128
    · exact ⟨y, x, n, by rw [if_neg (by simp; omega)], by omega, c, by rw [vbI_small c, hp]⟩
    · rw [if_pos (by simp; omega), if_pos (by omega)]
      have e1 : Int.fdiv (x : Int) (2 ^ 7) = ((x / 128 : Nat) : Int) := by
        rw [Int.fdiv_eq_ediv_of_nonneg _ (by decide)]; norm_cast
      have hw : IntKind.wrap .i64 ((n : Int) + 1) = ((n + 1 : Nat) : Int) := by rw [wrap_id (by omega) (by omega)]; omega
      have hi : Int.toNat (n : Int) = n := by omega
      rw [e1, hw, or128, hi]
      cases k with
      | zero => simp at hx; omega
      | succ k =>
        have hA : isArr 10 K_t144 = true := rfl
        obtain ⟨y2, x2, n2, i1, i2, i3, i4⟩ := f90_walk k (x / 128) (n + 1) (setA K_t144 y n ((x % 128 + 128 : Nat) : Int)) (pre ++ [((x % 128 + 128 : Nat) : Int)]) (by rw [Nat.div_lt_iff_lt_mul (by decide)]; rw [Nat.pow_succ] at hx; exact hx) (by omega) (by
          rw [arrL_set hA (by omega), take_set (by rw [arrL_len hA]; omega), hp])
        refine ⟨y2, x2, n2, i1, i2, i3, ?_⟩
        rw [vbI_big c, ← i4]; simp

def numV (n : Nat) : List UInt8 := bytesS (vbI (2 * n))

theorem f90_numV {n : Nat} (hn : n < 9223372036854775808) : f90 (n : Int) = some (numV n) := by
  unfold f90
  have c : ¬ ((n : Int) < 0) := by omega
  have e1 : IntKind.wrap .u64 (IntKind.wrap .u64 (n : Int) * 2 ^ 1) = ((2 * n : Nat) : Int) := by
    rw [w64, w64]; omega
  rw [if_neg (by simp), e1]
  simp only [Option.bind_eq_bind, Option.bind_some]
  obtain ⟨y2, x2, n2, h1, h2, h3, h4⟩ := f90_walk 9 (2 * n) 0 (0, 0, 0, 0, 0, 0, 0, 0, 0, 0, ()) [] (by omega) (by omega) rfl
  rw [show (((0 : Nat) : Int)) = (0 : Int) from rfl] at h1
  rw [h1]
  simp only [Option.bind_some]
  have hw : IntKind.wrap .i64 ((n2 : Int) + 1) = ((n2 + 1 : Nat) : Int) := by rw [wrap_id (by omega) (by omega)]; omega
  rw [hw, if_pos (by omega), if_pos (by omega)]
  have hA : isArr 10 K_t144 = true := rfl
  have hi : Int.toNat (n2 : Int) = n2 := by omega
  have hi2 : Int.toNat ((n2 + 1 : Nat) : Int) = n2 + 1 := by omega
  have hz : IntKind.wrap .u8 (x2 : Int) = (x2 : Int) := by rw [w8]; omega
  rw [hi, hi2, hz, arrL_set hA h2, take_set (by rw [arrL_len hA]; exact h2), ← h4]
  rfl

theorem vbI_len : ∀ (k u : Nat), u < 128 ^ (k + 1) → (vbI u).length ≤ k + 1 := by
  intro k
  induction k with
  | zero => intro u h; rw [vbI_small (by simpa using h)]; simp
  | succ k ih =>
    intro u h
    by_cases c : u < 128
    · rw [vbI_small c]; simp
    · rw [vbI_big c, List.length_cons]
      have := ih (u / 128) (by rw [Nat.div_lt_iff_lt_mul (by decide)]; rw [Nat.pow_succ] at h; exact h)
      omega

theorem numV_len {n : Nat} (h : n < 9223372036854775808) : (numV n).length ≤ 10 := by
  unfold numV bytesS
  rw [List.length_map]
  exact vbI_len 9 (2 * n) (by omega)

theorem vbI_pos (u : Nat) : 0 < (vbI u).length := by
  by_cases c : u < 128
  · rw [vbI_small c]; simp
  · rw [vbI_big c]; simp

theorem u8_of {c : Nat} (h : c < 256) : (UInt8.ofNat ((c : Nat) : Int).toNat).toNat = c := by
  have : ((c : Nat) : Int).toNat = c := by omega
  rw [this, UInt8.toNat_ofNat_of_lt' (by show c < 256; exact h)]

theorem or_add {a b i : Nat} (h : a < 2 ^ i) (hs : a + b * 2 ^ i < 2 ^ 64) : (BitVec.ofInt (IntKind.bits .u64) (a : Int) ||| BitVec.ofInt (IntKind.bits .u64) ((b * 2 ^ i : Nat) : Int)).toNat = a + b * 2 ^ i := by
  have e1 : BitVec.ofInt (IntKind.bits .u64) (a : Int) = BitVec.ofNat 64 a := ofInt_nat 64 a
  have e2 : BitVec.ofInt (IntKind.bits .u64) ((b * 2 ^ i : Nat) : Int) = BitVec.ofNat 64 (b * 2 ^ i) := ofInt_nat 64 _
  rw [e1, e2]
  show (BitVec.ofNat 64 a ||| BitVec.ofNat 64 (b * 2 ^ i)).toNat = _
  rw [BitVec.toNat_or, BitVec.toNat_ofNat, BitVec.toNat_ofNat, Nat.mod_eq_of_lt (by omega), Nat.mod_eq_of_lt (by omega)]
  have := Nat.two_pow_add_eq_or_of_lt h b
  rw [Nat.or_comm, Nat.mul_comm b, ← this]; omega

theorem and_one (x : Nat) (hx : x < 2 ^ 64) : (BitVec.ofInt (IntKind.bits .u64) (x : Int) &&& BitVec.ofInt (IntKind.bits .u64) 1).toNat = x % 2 := by
  have e1 : BitVec.ofInt (IntKind.bits .u64) (x : Int) = BitVec.ofNat 64 x := ofInt_nat 64 x
  have e2 : BitVec.ofInt (IntKind.bits .u64) 1 = BitVec.ofNat 64 1 := rfl
  rw [e1, e2]
  show (BitVec.ofNat 64 x &&& BitVec.ofNat 64 1).toNat = _
  rw [BitVec.toNat_and, BitVec.toNat_ofNat, BitVec.toNat_ofNat, Nat.mod_eq_of_lt hx, Nat.mod_eq_of_lt (by decide), Nat.and_one_is_mod]

theorem at_drop {s : List UInt8} {n : Nat} {c : UInt8} {r : List UInt8} (h : s.drop n = c :: r) : n < s.length ∧ btS s (n : Int) = (c.toNat : Int) ∧ s.drop (n + 1) = r := by
  have hl : n < s.length := by
    rcases Nat.lt_or_ge n s.length with h1 | h1
    · exact h1
    · rw [List.drop_of_length_le h1] at h; cases h
  have h2 : s.drop n = s[n] :: s.drop (n + 1) := by simp
  rw [h] at h2
  injection h2 with h3 h4
  exact ⟨hl, by rw [btS_at hl, h3], h4.symm⟩

theorem f113_walk (s : List UInt8) (p : Nat) (hs : s.length < 9223372036854775808) : ∀ (u i acc : Nat) (rest : List UInt8), s.drop (p + i) = bytesS (vbI u) ++ rest → acc < 2 ^ (7 * i) → acc + u * 2 ^ (7 * i) < 2 ^ 63 → (acc + u * 2 ^ (7 * i)) % 2 = 0 → (0 < i → u ≠ 0) →
    f113_l0 s (p : Int) (acc : Int) (i : Int) = some (.inr ((((acc + u * 2 ^ (7 * i)) / 2 : Nat) : Int), ((p + i + (vbI u).length : Nat) : Int), 0)) := by
  intro u
  induction u using Nat.strongRecOn with
  | ind u ih =>
    intro i acc rest hd ha ht hev hu
    have hi : i < 9 := by
      by_cases h0 : i = 0
      · omega
      · have hu1 : 1 ≤ u := by have := hu (by omega); omega
        have h1 : 2 ^ (7 * i) ≤ u * 2 ^ (7 * i) := Nat.le_mul_of_pos_left _ hu1
        have h2 : 2 ^ (7 * i) < 2 ^ 63 := by omega
        have := (Nat.pow_lt_pow_iff_right (a := 2) (by decide)).1 h2
        omega
    rw [f113_l0]
    have hhead : ∃ c : Nat, ∃ r, c < 256 ∧ s.drop (p + i) = (UInt8.ofNat ((c : Nat) : Int).toNat) :: r ∧ (u < 128 → c = u ∧ r = rest) ∧ (¬ u < 128 → c = u % 128 + 128 ∧ r = bytesS (vbI (u / 128)) ++ rest) := by
      by_cases c : u < 128
      · exact ⟨u, rest, by omega, by rw [hd, vbI_small c]; rfl, fun _ => ⟨rfl, rfl⟩, fun h => absurd c h⟩
      · exact ⟨u % 128 + 128, bytesS (vbI (u / 128)) ++ rest, by omega, by rw [hd, vbI_big c]; rfl, fun h => absurd h c, fun _ => ⟨rfl, rfl⟩⟩
    obtain ⟨c, r, hc, hd2, hsm, hbg⟩ := hhead
    obtain ⟨h1, h2, h3⟩ := at_drop hd2
    rw [u8_of hc] at h2
    have hw : IntKind.wrap .i64 ((p : Int) + (i : Int)) = ((p + i : Nat) : Int) := by rw [wrap_id (by omega) (by omega)]; omega
    have hw7 : IntKind.wrap .i64 (7 * (i : Int)) = ((7 * i : Nat) : Int) := by rw [wrap_id (by omega) (by omega)]; omega
    have hw1 : IntKind.wrap .i64 ((i : Int) + 1) = ((i + 1 : Nat) : Int) := by rw [wrap_id (by omega) (by omega)]; omega
    have hmin : min (Int.toNat ((7 * i : Nat) : Int)) (IntKind.bits .u64) = 7 * i := by
      have : Int.toNat ((7 * i : Nat) : Int) = 7 * i := by omega
      rw [this]
      show min (7 * i) 64 = 7 * i
      omega
    rw [hw, hw7, hw1, h2, hmin, and127 hc]
    rw [if_pos (by simp; omega), if_pos (by omega), if_neg (by simp; omega), if_pos (by omega)]
    have hb : c % 128 ≤ u := by
      by_cases cc : u < 128
      · have := (hsm cc).1; omega
      · have := (hbg cc).1; omega
    have hle : (c % 128) * 2 ^ (7 * i) ≤ u * 2 ^ (7 * i) := Nat.mul_le_mul_right _ hb
    have e1 : IntKind.wrap .u64 (IntKind.wrap .u64 ((c % 128 : Nat) : Int) * 2 ^ (7 * i)) = (((c % 128) * 2 ^ (7 * i) : Nat) : Int) := by
      have e : IntKind.wrap .u64 ((c % 128 : Nat) : Int) = ((c % 128 : Nat) : Int) := by rw [w64]; omega
      have e0 : ((c % 128 : Nat) : Int) * 2 ^ (7 * i) = (((c % 128) * 2 ^ (7 * i) : Nat) : Int) := by push_cast; rfl
      rw [e, e0, w64]
      have : (((c % 128) * 2 ^ (7 * i) : Nat) : Int) < 18446744073709551616 := by
        have : (c % 128) * 2 ^ (7 * i) < 2 ^ 63 := by omega
        have h63 : (2 : Nat) ^ 63 < 18446744073709551616 := by decide
        omega
      omega
    have e2 : IntKind.wrap .u64 (((BitVec.ofInt (IntKind.bits .u64) (acc : Int) ||| BitVec.ofInt (IntKind.bits .u64) (((c % 128) * 2 ^ (7 * i) : Nat) : Int)).toNat : Nat) : Int) = ((acc + (c % 128) * 2 ^ (7 * i) : Nat) : Int) := by
      rw [or_add ha (by have : (2 : Nat) ^ 63 < 2 ^ 64 := by decide
                        omega), w64]
      have h63 : (2 : Nat) ^ 63 < 18446744073709551616 := by decide
      omega
    rw [e1, e2]
    by_cases cc : u < 128
    · obtain ⟨rfl, rfl⟩ := hsm cc
      have hm : c % 128 = c := by omega
      rw [if_neg (by simp; omega), if_neg (by simp only [Bool.and_eq_true, beq_iff_eq, decide_eq_true_eq, not_and]; intro h4 h5; exact hu (by omega) (by omega)), hm, vbI_small cc]
      have h63 : (2 : Nat) ^ 63 < 2 ^ 64 := by decide
      rw [and_one _ (by omega), hev]
      have hne : ¬ ((IntKind.wrap .u64 ((0 : Nat) : Int) == 1) = true) := by decide
      rw [if_neg hne]
      simp only [Option.bind_eq_bind, Option.bind_some]
      have e3 : Int.fdiv ((acc + c * 2 ^ (7 * i) : Nat) : Int) (2 ^ 1) = (((acc + c * 2 ^ (7 * i)) / 2 : Nat) : Int) := by
        rw [Int.fdiv_eq_ediv_of_nonneg _ (by decide)]; norm_cast
      have h64 : (2 : Nat) ^ 63 = 9223372036854775808 := by decide
      rw [e3, wrap_id (by omega) (by omega), wrap_id (by omega) (by omega)]
      simp
    · obtain ⟨rfl, rfl⟩ := hbg cc
      rw [if_pos (by simp; omega)]
      have hm : (u % 128 + 128) % 128 = u % 128 := by omega
      rw [hm]
      have hsum : acc + u % 128 * 2 ^ (7 * i) + u / 128 * 2 ^ (7 * (i + 1)) = acc + u * 2 ^ (7 * i) := by
        have e : 2 ^ (7 * (i + 1)) = 128 * 2 ^ (7 * i) := by rw [Nat.mul_add, Nat.pow_add, Nat.mul_comm]
        rw [e, Nat.add_assoc, ← Nat.mul_assoc, ← Nat.add_mul]
        congr 2
        omega
      have hlt : acc + u % 128 * 2 ^ (7 * i) < 2 ^ (7 * (i + 1)) := by
        have e : 2 ^ (7 * (i + 1)) = 128 * 2 ^ (7 * i) := by rw [Nat.mul_add, Nat.pow_add, Nat.mul_comm]
        have h5 : u % 128 * 2 ^ (7 * i) ≤ 127 * 2 ^ (7 * i) := Nat.mul_le_mul_right _ (by omega)
        rw [e]; omega
      have := ih (u / 128) (by omega) (i + 1) (acc + u % 128 * 2 ^ (7 * i)) rest (by rw [← Nat.add_assoc]; exact h3) hlt (by rw [hsum]; exact ht) (by rw [hsum]; exact hev) (fun _ => by omega)
      rw [hsum] at this
      rw [this, vbI_big cc, List.length_cons]
      congr 5
      omega

theorem f113_short (s : List UInt8) (p : Nat) (hs : s.length < 9223372036854775808) : ∀ (t : List UInt8) (i : Nat) (acc : Int), s.drop (p + i) = t → p + i ≤ s.length → (∀ c ∈ t, 128 ≤ c.toNat) → i + t.length ≤ 9 →
    ∃ z, f113_l0 s (p : Int) acc (i : Int) = some (.inl z)
  | [], i, acc, hd, hp, ht, hi => by
    rw [f113_l0]
    have hl : s.length ≤ p + i := by
      have := congrArg List.length hd
      rw [List.length_drop] at this
      simp only [List.length_nil] at this
      omega
    have hw : IntKind.wrap .i64 ((p : Int) + (i : Int)) = ((p + i : Nat) : Int) := by rw [wrap_id (by omega) (by simp at hi; omega)]; omega
    rw [hw, if_neg (by simp; omega)]
    exact ⟨_, rfl⟩
  | c :: r, i, acc, hd, hp, ht, hi => by
    rw [f113_l0]
    obtain ⟨h1, h2, h3⟩ := at_drop hd
    have hc := ht c List.mem_cons_self
    simp only [List.length_cons] at hi
    have hw : IntKind.wrap .i64 ((p : Int) + (i : Int)) = ((p + i : Nat) : Int) := by rw [wrap_id (by omega) (by omega)]; omega
    have hw7 : IntKind.wrap .i64 (7 * (i : Int)) = ((7 * i : Nat) : Int) := by rw [wrap_id (by omega) (by omega)]; omega
    have hw1 : IntKind.wrap .i64 ((i : Int) + 1) = ((i + 1 : Nat) : Int) := by rw [wrap_id (by omega) (by omega)]; omega
    rw [hw, hw7, hw1, h2, if_pos (by simp; omega), if_pos (by omega), if_neg (by simp; omega), if_pos (by omega), if_pos (by simp; omega)]
    exact f113_short s p hs r (i + 1) _ (by rw [← Nat.add_assoc]; exact h3) (by omega) (fun x hx => ht x (List.mem_cons_of_mem _ hx)) (by omega)

theorem vbI_split (u : Nat) : ∃ pre l, bytesS (vbI u) = pre ++ [l] ∧ ∀ c ∈ pre, 128 ≤ UInt8.toNat c := by
  induction u using Nat.strongRecOn with
  | ind u ih =>
    by_cases c : u < 128
    · exact ⟨[], _, by rw [vbI_small c]; rfl, by simp⟩
    · obtain ⟨pre, l, h1, h2⟩ := ih (u / 128) (by omega)
      refine ⟨UInt8.ofNat (((u % 128 + 128 : Nat) : Int).toNat) :: pre, l, ?_, ?_⟩
      · rw [vbI_big c]
        show _ :: bytesS (vbI (u / 128)) = _
        rw [h1]; rfl
      · intro x hx
        rcases List.mem_cons.1 hx with rfl | hx
        · rw [u8_of (by omega)]; omega
        · exact h2 x hx

theorem f113_num {s : List UInt8} {p k : Nat} {rest : List UInt8} (hs : s.length < 9223372036854775808) (hk : k < 4611686018427387904) (hp : p ≤ s.length) (hd : s.drop p = numV k ++ rest) :
    f113 s (p : Int) = some ((k : Int), ((p + (numV k).length : Nat) : Int), 0) := by
  unfold f113
  rw [if_neg (by simp; omega)]
  have := f113_walk s p hs (2 * k) 0 0 rest (by simpa [numV] using hd) (by simp) (by simp; omega) (by simp) (by simp)
  rw [show (((0 : Nat) : Int)) = (0 : Int) from rfl] at this
  rw [this]
  simp [numV, bytesS]

theorem f113_torn {s : List UInt8} {p k : Nat} {t : List UInt8} (hs : s.length < 9223372036854775808) (hk : k < 4611686018427387904) (hp : p ≤ s.length) (hd : s.drop p = t) (ht : t <+: numV k) (hn : t.length < (numV k).length) :
    f113 s (p : Int) = some (0, 0, 5) := by
  unfold f113
  rw [if_neg (by simp; omega)]
  obtain ⟨pre, l, h1, h2⟩ := vbI_split (2 * k)
  have h3 : numV k = pre ++ [l] := h1
  have hl := numV_len (n := k) (by omega)
  have h4 : t <+: pre := by
    rw [h3] at ht hn
    rw [List.length_append] at hn
    simp only [List.length_cons, List.length_nil] at hn
    exact List.prefix_of_prefix_length_le ht (List.prefix_append _ _) (by omega)
  obtain ⟨z, hz⟩ := f113_short s p hs t 0 0 (by simpa using hd) (by omega) (fun c hc => h2 c (h4.subset hc)) (by omega)
  rw [show (((0 : Nat) : Int)) = (0 : Int) from rfl] at hz
  rw [hz]
  rfl
end Go.Proofs.YtbnmhjobnepajaaGreat.M


namespace Go.Proofs.YtbnmhjobnepajaaGreat.M

theorem loopM_un {s γ : Type} {f : s → Option (s ⊕ γ)} (x : s) : loopM f x = (f x).bind (Sum.elim (fun y => loopM f y) some) := by
  rw [loopM]
  show (f x).bind _ = _
  cases f x with
  | none => rfl
  | some y => cases y <;> rfl

theorem loopM_go {s γ : Type} {f : s → Option (s ⊕ γ)} {x y : s} (h : f x = some (.inl y)) : loopM f x = loopM f y := by rw [loopM_un, h]; rfl
theorem loopM_end {s γ : Type} {f : s → Option (s ⊕ γ)} {x : s} {r : γ} (h : f x = some (.inr r)) : loopM f x = some r := by rw [loopM_un, h]; rfl

def allX {α : Type} (P : Nat → α → Bool) : Nat → List α → Bool
  | _, [] => true
  | i, x :: r => P i x && allX P (i + 1) r
theorem allX_all {α : Type} {P : α → Bool} : ∀ {i : Nat} {l : List α}, allX (fun _ x => P x) i l = l.all P
  | _, [] => rfl
  | i, x :: r => by rw [allX, List.all_cons, allX_all]
theorem wrap_nat {i : Nat} (h : i < 9223372036854775807) : IntKind.wrap .i64 ((i : Int) + 1) = ((i + 1 : Nat) : Int) := by rw [wrap_id (by omega) (by omega)]; omega

theorem chkLoop {α β : Type} {l : List α} {F : Int → Option (Int ⊕ (Unit ⊕ β))} (P : Nat → α → Bool) {e : β} (hF : ∀ i (h : i < l.length), F (i : Int) = some (if P i l[i] = true then .inl ((i + 1 : Nat) : Int) else .inr (.inr e))) (hE : F (l.length : Int) = some (.inr (.inl ()))) :
    ∀ (k i : Nat), i + k = l.length → loopM F (i : Int) = some (if allX P i (l.drop i) = true then .inl () else .inr e)
  | 0, i, hi => by
    have : i = l.length := by omega
    subst this
    rw [loopM_un, hE]
    simp [allX]
  | k + 1, i, hi => by
    have hl : i < l.length := by omega
    have hd : l.drop i = l[i] :: l.drop (i + 1) := by simp
    rw [loopM_un, hF i hl, hd]
    by_cases hp : P i l[i] = true
    · rw [if_pos hp]
      show loopM F (((i + 1 : Nat)) : Int) = _
      rw [chkLoop P hF hE k (i + 1) (by omega)]
      simp only [allX, hp, Bool.true_and]
    · rw [if_neg hp]
      simp [allX, hp]
theorem chk0 {α β : Type} {l : List α} {F : Int → Option (Int ⊕ (Unit ⊕ β))} (P : Nat → α → Bool) {e : β} (hF : ∀ i (h : i < l.length), F (i : Int) = some (if P i l[i] = true then .inl ((i + 1 : Nat) : Int) else .inr (.inr e))) (hE : F (l.length : Int) = some (.inr (.inl ()))) :
    loopM F 0 = some (if allX P 0 l = true then .inl () else .inr e) := by
  have := chkLoop P hF hE l.length 0 (by omega)
  simpa using this

def zz (n : Int) : Nat := if 0 ≤ n then (2 * n).toNat else (-2 * n - 1).toNat
def unz (u : Nat) : Int := if u % 2 = 0 then ((u / 2 : Nat) : Int) else -((u / 2 : Nat) : Int) - 1
theorem unz_zz (n : Int) : unz (zz n) = n := by
  unfold unz zz
  split <;> split <;> omega
def zI (n : Int) : List Int := vbI (zz n)
def numZ (n : Int) : List UInt8 := bytesS (zI n)
theorem zz_lt {n : Int} (h1 : -9223372036854775808 ≤ n) (h2 : n < 9223372036854775808) : zz n < 18446744073709551616 := by
  unfold zz; split <;> omega
theorem not64 {x : Nat} (h : x < 18446744073709551616) : ((BitVec.ofInt (IntKind.bits .u64) (if IntKind.signed .u64 = true then -1 else IntKind.max .u64) ^^^ BitVec.ofInt (IntKind.bits .u64) (x : Int)).toNat : Int) = 18446744073709551615 - (x : Int) := by
  have e1 : BitVec.ofInt (IntKind.bits .u64) (x : Int) = BitVec.ofNat 64 x := ofInt_nat 64 x
  have e2 : BitVec.ofInt (IntKind.bits .u64) (if IntKind.signed .u64 = true then -1 else IntKind.max .u64) = BitVec.allOnes 64 := by rfl
  rw [e1, e2]
  show ((BitVec.allOnes 64 ^^^ BitVec.ofNat 64 x).toNat : Int) = _
  rw [BitVec.allOnes_xor, BitVec.toNat_not, BitVec.toNat_ofNat, Nat.mod_eq_of_lt (by omega)]
  omega
theorem not64s {x : Nat} (h : x < 9223372036854775808) : IntKind.wrap .i64 ((BitVec.ofInt (IntKind.bits .i64) (if IntKind.signed .i64 = true then -1 else IntKind.max .i64) ^^^ BitVec.ofInt (IntKind.bits .i64) (x : Int)).toNat : Int) = -(x : Int) - 1 := by
  have e1 : BitVec.ofInt (IntKind.bits .i64) (x : Int) = BitVec.ofNat 64 x := ofInt_nat 64 x
  have e2 : BitVec.ofInt (IntKind.bits .i64) (if IntKind.signed .i64 = true then -1 else IntKind.max .i64) = BitVec.allOnes 64 := by rfl
  rw [e1, e2]
  show IntKind.wrap .i64 ((BitVec.allOnes 64 ^^^ BitVec.ofNat 64 x).toNat : Int) = _
  rw [BitVec.allOnes_xor, BitVec.toNat_not, BitVec.toNat_ofNat, Nat.mod_eq_of_lt (by omega), IntKind.wrap_i64]
  omega

theorem f90_all {n : Int} (h1 : -9223372036854775808 ≤ n) (h2 : n < 9223372036854775808) : f90 n = some (numZ n) := by
  unfold f90
  have e1 : (if (decide (n < 0)) = true then some (IntKind.wrap .u64 ((BitVec.ofInt (IntKind.bits .u64) (if IntKind.signed .u64 = true then -1 else IntKind.max .u64) ^^^ BitVec.ofInt (IntKind.bits .u64) (IntKind.wrap .u64 ((IntKind.wrap .u64 (n)) * 2 ^ 1))).toNat)) else some (IntKind.wrap .u64 ((IntKind.wrap .u64 (n)) * 2 ^ 1)) : Option Int) = some ((zz n : Nat) : Int) := by
    by_cases c : n < 0
    · have e2 : IntKind.wrap .u64 (IntKind.wrap .u64 n * 2 ^ 1) = ((18446744073709551616 + 2 * n).toNat : Int) := by
        rw [w64, w64]; omega
      rw [if_pos (by simpa using c), e2, not64 (by omega), w64]
      congr 1
      unfold zz
      rw [if_neg (by omega)]
      omega
    · rw [if_neg (by simpa using c), w64, w64]
      congr 1
      unfold zz
      rw [if_pos (by omega)]
      omega
  rw [e1]
  simp only [Option.bind_eq_bind, Option.bind_some]
  obtain ⟨y2, x2, n2, g1, g2, g3, g4⟩ := f90_walk 9 (zz n) 0 (0, 0, 0, 0, 0, 0, 0, 0, 0, 0, ()) [] (by have := zz_lt h1 h2; omega) (by omega) rfl
  rw [show (((0 : Nat) : Int)) = (0 : Int) from rfl] at g1
  rw [g1]
  simp only [Option.bind_some]
  have hw : IntKind.wrap .i64 ((n2 : Int) + 1) = ((n2 + 1 : Nat) : Int) := by rw [wrap_id (by omega) (by omega)]; omega
  rw [hw, if_pos (by omega), if_pos (by omega)]
  have hA : isArr 10 K_t144 = true := rfl
  have hi : Int.toNat (n2 : Int) = n2 := by omega
  have hi2 : Int.toNat ((n2 + 1 : Nat) : Int) = n2 + 1 := by omega
  have hz : IntKind.wrap .u8 (x2 : Int) = (x2 : Int) := by rw [w8]; omega
  rw [hi, hi2, hz, arrL_set hA g2, take_set (by rw [arrL_len hA]; exact g2), ← g4]
  rfl

theorem zI_len {n : Int} (h1 : -9223372036854775808 ≤ n) (h2 : n < 9223372036854775808) : (zI n).length ≤ 10 := by
  refine vbI_len 9 (zz n) ?_
  have := zz_lt h1 h2
  omega
theorem vbI_byte (u : Nat) : ∀ x ∈ vbI u, 0 ≤ x ∧ x < 256 := by
  induction u using Nat.strongRecOn with
  | ind u ih =>
    intro x hx
    by_cases c : u < 128
    · rw [vbI_small c] at hx
      simp only [List.mem_singleton] at hx
      omega
    · rw [vbI_big c] at hx
      rcases List.mem_cons.1 hx with rfl | hx
      · omega
      · exact ih _ (by omega) x hx
theorem nums_bytes {l : List Int} (h : ∀ x ∈ l, 0 ≤ x ∧ x < 256) : nums8 (bytesS l) = l := by
  unfold nums8 bytesS
  rw [List.map_map]
  refine (List.map_congr_left fun x hx => ?_).trans (List.map_id l)
  obtain ⟨h1, h2⟩ := h x hx
  simp only [Function.comp, id]
  have := u8_of (c := x.toNat) (by omega)
  have e : ((x.toNat : Nat) : Int) = x := by omega
  rw [e] at this
  omega
theorem nums_numZ (n : Int) : nums8 (numZ n) = zI n := nums_bytes (vbI_byte _)
theorem bytes_nums (s : List UInt8) : bytesS (nums8 s) = s := by
  unfold nums8 bytesS
  rw [List.map_map]
  refine (List.map_congr_left fun x hx => ?_).trans (List.map_id s)
  simp
theorem bytes_app (a b : List Int) : bytesS (a ++ b) = bytesS a ++ bytesS b := by unfold bytesS; rw [List.map_append]
theorem nums_len (s : List UInt8) : (nums8 s).length = s.length := by simp [nums8]
theorem bytes_len (s : List Int) : (bytesS s).length = s.length := by simp [bytesS]
end Go.Proofs.YtbnmhjobnepajaaGreat.M


namespace Go.Proofs.YtbnmhjobnepajaaGreat.M

theorem f113_walkZ (s : List UInt8) (p : Nat) (hs : s.length < 9223372036854775808) : ∀ (u i acc : Nat) (rest : List UInt8), s.drop (p + i) = bytesS (vbI u) ++ rest → acc < 2 ^ (7 * i) → acc + u * 2 ^ (7 * i) < 2 ^ 63 → (0 < i → u ≠ 0) →
    f113_l0 s (p : Int) (acc : Int) (i : Int) = some (.inr (unz (acc + u * 2 ^ (7 * i)), ((p + i + (vbI u).length : Nat) : Int), 0)) := by
  intro u
  induction u using Nat.strongRecOn with
  | ind u ih =>
    intro i acc rest hd ha ht hu
    have hi : i < 9 := by
      by_cases h0 : i = 0
      · omega
      · have hu1 : 1 ≤ u := by have := hu (by omega); omega
        have h1 : 2 ^ (7 * i) ≤ u * 2 ^ (7 * i) := Nat.le_mul_of_pos_left _ hu1
        have h2 : 2 ^ (7 * i) < 2 ^ 63 := by omega
        have := (Nat.pow_lt_pow_iff_right (a := 2) (by decide)).1 h2
        omega
    rw [f113_l0]
    have hhead : ∃ c : Nat, ∃ r, c < 256 ∧ s.drop (p + i) = (UInt8.ofNat ((c : Nat) : Int).toNat) :: r ∧ (u < 128 → c = u ∧ r = rest) ∧ (¬ u < 128 → c = u % 128 + 128 ∧ r = bytesS (vbI (u / 128)) ++ rest) := by
      by_cases c : u < 128
      · exact ⟨u, rest, by omega, by rw [hd, vbI_small c]; rfl, fun _ => ⟨rfl, rfl⟩, fun h => absurd c h⟩
      · exact ⟨u % 128 + 128, bytesS (vbI (u / 128)) ++ rest, by omega, by rw [hd, vbI_big c]; rfl, fun h => absurd h c, fun _ => ⟨rfl, rfl⟩⟩
    obtain ⟨c, r, hc, hd2, hsm, hbg⟩ := hhead
    obtain ⟨h1, h2, h3⟩ := at_drop hd2
    rw [u8_of hc] at h2
    have hw : IntKind.wrap .i64 ((p : Int) + (i : Int)) = ((p + i : Nat) : Int) := by rw [wrap_id (by omega) (by omega)]; omega
    have hw7 : IntKind.wrap .i64 (7 * (i : Int)) = ((7 * i : Nat) : Int) := by rw [wrap_id (by omega) (by omega)]; omega
    have hw1 : IntKind.wrap .i64 ((i : Int) + 1) = ((i + 1 : Nat) : Int) := by rw [wrap_id (by omega) (by omega)]; omega
    have hmin : min (Int.toNat ((7 * i : Nat) : Int)) (IntKind.bits .u64) = 7 * i := by
      have : Int.toNat ((7 * i : Nat) : Int) = 7 * i := by omega
      rw [this]
      show min (7 * i) 64 = 7 * i
      omega
    rw [hw, hw7, hw1, h2, hmin, and127 hc]
    rw [if_pos (by simp; omega), if_pos (by omega), if_neg (by simp; omega), if_pos (by omega)]
    have hb : c % 128 ≤ u := by
      by_cases cc : u < 128
      · have := (hsm cc).1; omega
      · have := (hbg cc).1; omega
    have hle : (c % 128) * 2 ^ (7 * i) ≤ u * 2 ^ (7 * i) := Nat.mul_le_mul_right _ hb
    have e1 : IntKind.wrap .u64 (IntKind.wrap .u64 ((c % 128 : Nat) : Int) * 2 ^ (7 * i)) = (((c % 128) * 2 ^ (7 * i) : Nat) : Int) := by
      have e : IntKind.wrap .u64 ((c % 128 : Nat) : Int) = ((c % 128 : Nat) : Int) := by rw [w64]; omega
      have e0 : ((c % 128 : Nat) : Int) * 2 ^ (7 * i) = (((c % 128) * 2 ^ (7 * i) : Nat) : Int) := by push_cast; rfl
      rw [e, e0, w64]
      have : (((c % 128) * 2 ^ (7 * i) : Nat) : Int) < 18446744073709551616 := by
        have : (c % 128) * 2 ^ (7 * i) < 2 ^ 63 := by omega
        have h63 : (2 : Nat) ^ 63 < 18446744073709551616 := by decide
        omega
      omega
    have e2 : IntKind.wrap .u64 (((BitVec.ofInt (IntKind.bits .u64) (acc : Int) ||| BitVec.ofInt (IntKind.bits .u64) (((c % 128) * 2 ^ (7 * i) : Nat) : Int)).toNat : Nat) : Int) = ((acc + (c % 128) * 2 ^ (7 * i) : Nat) : Int) := by
      rw [or_add ha (by have : (2 : Nat) ^ 63 < 2 ^ 64 := by decide
                        omega), w64]
      have h63 : (2 : Nat) ^ 63 < 18446744073709551616 := by decide
      omega
    rw [e1, e2]
    by_cases cc : u < 128
    · obtain ⟨rfl, rfl⟩ := hsm cc
      have hm : c % 128 = c := by omega
      rw [if_neg (by simp; omega), if_neg (by simp only [Bool.and_eq_true, beq_iff_eq, decide_eq_true_eq, not_and]; intro h4 h5; exact hu (by omega) (by omega)), hm, vbI_small cc]
      have h63 : (2 : Nat) ^ 63 < 2 ^ 64 := by decide
      have h64 : (2 : Nat) ^ 63 = 9223372036854775808 := by decide
      rw [and_one _ (by omega)]
      generalize hT : acc + c * 2 ^ (7 * i) = T at *
      have e3 : Int.fdiv ((T : Nat) : Int) (2 ^ 1) = ((T / 2 : Nat) : Int) := by
        rw [Int.fdiv_eq_ediv_of_nonneg _ (by decide)]; norm_cast
      have hl : IntKind.wrap .i64 (((p + i : Nat) : Int) + 1) = ((p + i + 1 : Nat) : Int) := by rw [wrap_id (by omega) (by omega)]; omega
      rw [e3, hl]
      by_cases hev : T % 2 = 0
      · have hne : ¬ ((IntKind.wrap .u64 ((T % 2 : Nat) : Int) == 1) = true) := by rw [hev]; decide
        rw [if_neg hne]
        simp only [Option.bind_eq_bind, Option.bind_some]
        rw [wrap_id (by omega) (by omega)]
        unfold unz
        rw [if_pos hev]
        simp
      · have hp : (IntKind.wrap .u64 ((T % 2 : Nat) : Int) == 1) = true := by rw [show T % 2 = 1 by omega]; decide
        rw [if_pos hp]
        simp only [Option.bind_eq_bind, Option.bind_some]
        rw [wrap_id (x := ((T / 2 : Nat) : Int)) (by omega) (by omega), not64s (by omega)]
        unfold unz
        rw [if_neg hev]
        simp
    · obtain ⟨rfl, rfl⟩ := hbg cc
      rw [if_pos (by simp; omega)]
      have hm : (u % 128 + 128) % 128 = u % 128 := by omega
      rw [hm]
      have hsum : acc + u % 128 * 2 ^ (7 * i) + u / 128 * 2 ^ (7 * (i + 1)) = acc + u * 2 ^ (7 * i) := by
        have e : 2 ^ (7 * (i + 1)) = 128 * 2 ^ (7 * i) := by rw [Nat.mul_add, Nat.pow_add, Nat.mul_comm]
        rw [e, Nat.add_assoc, ← Nat.mul_assoc, ← Nat.add_mul]
        congr 2
        omega
      have hlt : acc + u % 128 * 2 ^ (7 * i) < 2 ^ (7 * (i + 1)) := by
        have e : 2 ^ (7 * (i + 1)) = 128 * 2 ^ (7 * i) := by rw [Nat.mul_add, Nat.pow_add, Nat.mul_comm]
        have h5 : u % 128 * 2 ^ (7 * i) ≤ 127 * 2 ^ (7 * i) := Nat.mul_le_mul_right _ (by omega)
        rw [e]; omega
      have := ih (u / 128) (by omega) (i + 1) (acc + u % 128 * 2 ^ (7 * i)) rest (by rw [← Nat.add_assoc]; exact h3) hlt (by rw [hsum]; exact ht) (fun _ => by omega)
      rw [hsum] at this
      rw [this, vbI_big cc, List.length_cons]
      congr 5
      omega

theorem f113_numZ {s : List UInt8} {p : Nat} {n : Int} {rest : List UInt8} (hs : s.length < 9223372036854775808) (h1 : -2199023255552 ≤ n) (h2 : n ≤ 2199023255552) (hp : p ≤ s.length) (hd : s.drop p = numZ n ++ rest) :
    f113 s (p : Int) = some (n, ((p + (numZ n).length : Nat) : Int), 0) := by
  unfold f113
  rw [if_neg (by simp; omega)]
  have hz : zz n < 4611686018427387904 := by unfold zz; split <;> omega
  have := f113_walkZ s p hs (zz n) 0 0 rest (by simpa [numZ, zI] using hd) (by simp) (by simp; omega) (by simp)
  simp only [Nat.zero_add, Nat.mul_zero, Nat.pow_zero, Nat.mul_one, Nat.add_zero, unz_zz] at this
  rw [show (0 : Int) = ((0 : Nat) : Int) from rfl, this]
  simp [numZ, zI, bytesS]
end Go.Proofs.YtbnmhjobnepajaaGreat.M


namespace Go.Proofs.YtbnmhjobnepajaaGreat.M

def splitS : List UInt8 → List UInt8 → List (List UInt8)
  | [], w => [w]
  | c :: r, w => if c = 47 then w :: splitS r [] else splitS r (w ++ [c])
def chOK (c : UInt8) : Bool := (97 ≤ c.toNat && c.toNat ≤ 122) || (48 ≤ c.toNat && c.toNat ≤ 57) || c.toNat == 45 || c.toNat == 95
def plainOK (p : List UInt8) : Bool := decide (0 < p.length) && p.all chOK
def streamOK (s : List UInt8) : Bool := decide (s.length ≤ 32) && ((splitS s []).all plainOK && decide ((splitS s []).length ≤ 4))

theorem bt47 {s : List UInt8} {i : Nat} (h : i < s.length) : (btS s (i : Int) == 47) = decide (s[i] = 47) := by
  rw [btS_at h, Bool.eq_iff_iff]
  simp only [beq_iff_eq, decide_eq_true_eq]
  constructor
  · intro h; apply UInt8.toNat_inj.1; show s[i].toNat = 47; omega
  · intro h; rw [h]; rfl

theorem parts_loop {s : List UInt8} (hs : s.length ≤ 32) : ∀ (k i fr : Nat) (out : List (List UInt8)), i + k = s.length → fr ≤ i → out.length ≤ i →
    ∃ out' fr', loopM (f_pattern_parts_l0 s) (out, (fr : Int), (i : Int)) = some (out', ((fr' : Nat) : Int)) ∧ fr' ≤ s.length ∧ out'.length ≤ s.length ∧ out' ++ [s.drop fr'] = out ++ splitS (s.drop i) ((s.take i).drop fr)
  | 0, i, fr, out, hi, hf, ho => by
    have : i = s.length := by omega
    subst this
    refine ⟨out, fr, loopM_end (by unfold f_pattern_parts_l0; simp), hf, ho, ?_⟩
    simp [splitS]
  | k + 1, i, fr, out, hi, hf, ho => by
    have hl : i < s.length := by omega
    have hd : s.drop i = s[i] :: s.drop (i + 1) := by simp
    have hw := wrap_nat (i := i) (by omega)
    rw [hd]
    by_cases c : s[i] = 47
    · rw [loopM_go (y := (out ++ [(s.take i).drop fr], ((i + 1 : Nat) : Int), ((i + 1 : Nat) : Int))) (by
        unfold f_pattern_parts_l0
        simp only [hw, bt47 hl]
        rw [if_pos (by simp; omega), if_pos (by omega), if_pos (by simpa using c), if_pos (by omega), if_pos (by omega)]
        simp)]
      obtain ⟨o', f', h1, h2, h3, h4⟩ := parts_loop hs k (i + 1) (i + 1) (out ++ [(s.take i).drop fr]) (by omega) (by omega) (by simp; omega)
      refine ⟨o', f', h1, h2, h3, ?_⟩
      rw [h4]
      have e0 : (s.take (i + 1)).drop (i + 1) = [] := by simp
      rw [e0]
      simp [splitS, c]
    · rw [loopM_go (y := (out, (fr : Int), ((i + 1 : Nat) : Int))) (by
        unfold f_pattern_parts_l0
        simp only [hw, bt47 hl]
        rw [if_pos (by simp; omega), if_pos (by omega), if_neg (by simpa using c)])]
      obtain ⟨o', f', h1, h2, h3, h4⟩ := parts_loop hs k (i + 1) fr out (by omega) (by omega) (by omega)
      refine ⟨o', f', h1, h2, h3, ?_⟩
      rw [h4]
      have e0 : (s.take (i + 1)).drop fr = (s.take i).drop fr ++ [s[i]] := by
        rw [List.take_succ_eq_append_getElem hl, List.drop_append_of_le_length (by simp; omega)]
      rw [e0]
      simp [splitS, c]
theorem parts_eq {s : List UInt8} (hs : s.length ≤ 32) : f_pattern_parts s = some (splitS s []) := by
  unfold f_pattern_parts
  obtain ⟨o', f', h1, h2, h3, h4⟩ := parts_loop hs s.length 0 0 [] (by omega) (by omega) (by simp)
  rw [show (0 : Int) = ((0 : Nat) : Int) from rfl, h1]
  simp only [Option.bind_some]
  rw [if_pos (by omega), if_pos (by omega)]
  simpa using h4

theorem split_loop {s : List UInt8} (hs : s.length ≤ 32) : ∀ (k i : Nat) (w : List UInt8) (out : List (List UInt8)), i + k = s.length → w.length ≤ i → out.length ≤ i →
    ∃ out' w', loopM (f_surmiseref06_Split_l0 s 47) (out, w, (i : Int)) = some (out', w') ∧ out'.length ≤ s.length ∧ out' ++ [w'] = out ++ splitS (s.drop i) w
  | 0, i, w, out, hi, hf, ho => by
    have : i = s.length := by omega
    subst this
    refine ⟨out, w, loopM_end (by unfold f_surmiseref06_Split_l0; simp), ho, ?_⟩
    simp [splitS]
  | k + 1, i, w, out, hi, hf, ho => by
    have hl : i < s.length := by omega
    have hd : s.drop i = s[i] :: s.drop (i + 1) := by simp
    have hw := wrap_nat (i := i) (by omega)
    rw [hd]
    by_cases c : s[i] = 47
    · rw [loopM_go (y := (out ++ [w], [], ((i + 1 : Nat) : Int))) (by
        unfold f_surmiseref06_Split_l0
        simp only [hw, bt47 hl]
        rw [if_pos (by simp; omega), if_pos (by omega), if_pos (by simpa using c), if_pos (by omega)])]
      obtain ⟨o', f', h1, h3, h4⟩ := split_loop hs k (i + 1) [] (out ++ [w]) (by omega) (by simp) (by simp; omega)
      refine ⟨o', f', h1, h3, ?_⟩
      rw [h4]
      simp [splitS, c]
    · have e0 : (s.take ((((i + 1 : Nat) : Int)).toNat)).drop ((i : Int)).toNat = [s[i]] := by
        rw [show (((i + 1 : Nat) : Int)).toNat = i + 1 by omega, show ((i : Int)).toNat = i by omega, List.take_succ_eq_append_getElem hl, List.drop_append_of_le_length (by simp; omega)]
        simp
      rw [loopM_go (y := (out, w ++ [s[i]], ((i + 1 : Nat) : Int))) (by
        unfold f_surmiseref06_Split_l0
        simp only [hw, bt47 hl]
        rw [if_pos (by simp; omega), if_pos (by omega), if_neg (by simpa using c), if_pos (by omega), e0, if_pos (by simp; omega)])]
      obtain ⟨o', f', h1, h3, h4⟩ := split_loop hs k (i + 1) (w ++ [s[i]]) out (by omega) (by simp; omega) (by omega)
      refine ⟨o', f', h1, h3, ?_⟩
      rw [h4]
      simp [splitS, c]
theorem split_eq {s : List UInt8} (hs : s.length ≤ 32) : f_surmiseref08_Parts s = some (splitS s []) := by
  unfold f_surmiseref08_Parts f_surmiseref06_Split
  obtain ⟨o', f', h1, h3, h4⟩ := split_loop hs s.length 0 [] [] (by omega) (by simp) (by simp)
  rw [show (0 : Int) = ((0 : Nat) : Int) from rfl, h1]
  simp only [Option.bind_some]
  rw [if_pos (by omega)]
  simpa using h4

theorem plain_eq {p : List UInt8} (hp : p.length < 4611686018427387904) : f_pattern_plain p = some (plainOK p) := by
  unfold f_pattern_plain plainOK
  by_cases hn : p = []
  · subst hn; rfl
  have hl : 0 < p.length := List.length_pos_iff.2 hn
  rw [if_neg (by simpa using hn), chk0 (l := p) (fun _ c => chOK c) (e := false) (fun i hi => ?_) (by unfold f_pattern_plain_l0; simp), allX_all]
  · rw [decide_eq_true hl]
    cases p.all chOK <;> rfl
  · unfold f_pattern_plain_l0
    simp only [wrap_nat (i := i) (by omega), btS_at hi]
    rw [if_pos (by simp; omega), if_pos (by omega)]
    unfold chOK
    generalize p[i].toNat = n
    by_cases c1 : 97 ≤ n ∧ n ≤ 122
    · rw [if_pos (by simp; omega), if_pos (by simp; omega)]
    rw [if_neg (by simp; omega)]
    by_cases c2 : 48 ≤ n ∧ n ≤ 57
    · rw [if_pos (by simp; omega), if_pos (by simp; omega)]
    rw [if_neg (by simp; omega)]
    by_cases c3 : n = 45
    · rw [if_pos (by simp; omega), if_pos (by simp; omega)]
    rw [if_neg (by simp; omega)]
    by_cases c4 : n = 95
    · rw [if_pos (by simp; omega), if_pos (by simp; omega)]
    rw [if_neg (by simp; omega), if_neg (by simp; omega)]
theorem plainR_eq {p : List UInt8} (hp : p.length < 4611686018427387904) : f_surmiseref08_Plain p = some (plainOK p) := by
  unfold f_surmiseref08_Plain plainOK
  rw [chk0 (l := p) (fun _ c => chOK c) (e := false) (fun i hi => ?_) (by unfold f_surmiseref08_Plain_l0; simp), allX_all]
  · cases p.all chOK <;> simp [sumO]
  · unfold f_surmiseref08_Plain_l0
    simp only [wrap_nat (i := i) (by omega), btS_at hi]
    rw [if_pos (by simp; omega), if_pos (by omega)]
    unfold chOK
    generalize p[i].toNat = n
    by_cases c : (97 ≤ n ∧ n ≤ 122) ∨ (48 ≤ n ∧ n ≤ 57) ∨ n = 45 ∨ n = 95
    · rw [if_neg (by simp; omega), if_pos (by simp; omega)]
    · rw [if_pos (by simp; omega), if_neg (by simp; omega)]

theorem splitS_len : ∀ (s w : List UInt8) (M : Nat), s.length + w.length ≤ M → (splitS s w).length ≤ s.length + 1 ∧ ∀ p ∈ splitS s w, p.length ≤ M
  | [], w, M, h => ⟨by simp [splitS], fun p hp => by simp [splitS] at hp; subst hp; simpa using h⟩
  | c :: r, w, M, h => by
    simp only [List.length_cons] at h
    unfold splitS
    split
    · obtain ⟨h1, h2⟩ := splitS_len r [] M (by simp; omega)
      refine ⟨by simp; omega, fun p hp => ?_⟩
      rcases List.mem_cons.1 hp with rfl | hp
      · omega
      · exact h2 p hp
    · obtain ⟨h1, h2⟩ := splitS_len r (w ++ [c]) M (by simp; omega)
      exact ⟨by simp; omega, h2⟩

theorem stream_eq (s : List UInt8) : f_pattern_Stream s = some (streamOK s) := by
  unfold f_pattern_Stream f_pattern_all_pattern_Stream_1 streamOK
  by_cases h : s.length ≤ 32
  · obtain ⟨g1, g2⟩ := splitS_len s [] 32 (by simpa using h)
    rw [if_neg (by simp; omega), parts_eq h]
    simp only [Option.bind_some]
    rw [chk0 (l := splitS s []) (fun _ c => plainOK c) (e := false) (fun i hi => ?_) (by unfold f_pattern_all_pattern_Stream_1_l0; simp), allX_all]
    · rw [decide_eq_true h]
      cases (splitS s []).all plainOK <;> simp [sumO]
      omega
    · unfold f_pattern_all_pattern_Stream_1_l0 f_pattern_Stream_1
      simp only [wrap_nat (i := i) (by omega), ix_at hi, Option.bind_some, plain_eq (p := (splitS s [])[i]) (by have := g2 _ (List.getElem_mem hi); omega)]
      rw [if_pos (by simp; omega)]
      cases plainOK (splitS s [])[i] <;> rfl
  · rw [if_pos (by simp; omega), decide_eq_false h]; rfl
theorem streamR_eq (s : List UInt8) : f_surmiseref08_Stream s = some (streamOK s) := by
  unfold f_surmiseref08_Stream streamOK
  by_cases h : s.length ≤ 32
  · obtain ⟨g1, g2⟩ := splitS_len s [] 32 (by simpa using h)
    rw [if_neg (by simp; omega), split_eq h]
    simp only [Option.bind_some]
    rw [chk0 (l := splitS s []) (fun _ c => plainOK c) (e := false) (fun i hi => ?_) (by unfold f_surmiseref08_Stream_l0; simp), allX_all]
    · rw [decide_eq_true h]
      cases (splitS s []).all plainOK <;> simp [sumO]
      omega
    · unfold f_surmiseref08_Stream_l0
      simp only [wrap_nat (i := i) (by omega), ix_at hi, Option.bind_some, plainR_eq (p := (splitS s [])[i]) (by have := g2 _ (List.getElem_mem hi); omega)]
      rw [if_pos (by simp; omega)]
      cases plainOK (splitS s [])[i] <;> rfl
  · rw [if_pos (by simp; omega), decide_eq_false h]; rfl
end Go.Proofs.YtbnmhjobnepajaaGreat.M


namespace Go.Proofs.YtbnmhjobnepajaaGreat.M

abbrev CmdT : Type := Int × Int × List UInt8 × Int × List Int × Int × Unit
abbrev VdT : Type := Int × Int × Unit
def I64 (n : Int) : Prop := -9223372036854775808 ≤ n ∧ n < 9223372036854775808
def inR (n a b : Int) : Bool := decide (n ≥ a) && decide (n ≤ b)
theorem inR_iff {n a b : Int} : inR n a b = true ↔ a ≤ n ∧ n ≤ b := by unfold inR; simp
def valsOK (l : List Int) (most : Nat) : Bool := l.all (fun n => inR n (-1099511627776) 1099511627776) && decide (l.length ≤ most)
def headOK (client seq : Int) (stream : List UInt8) : Bool := inR client 0 5 && inR seq 1 1099511627776 && streamOK stream
def cmdOK (c : CmdT) : Bool := headOK c.1 c.2.1 c.2.2.1 && inR c.2.2.2.1 0 11 && valsOK c.2.2.2.2.1 4 && inR c.2.2.2.2.2.1 (-1) 1099511627776
def vdOK (l : List VdT) (i : Nat) (v : VdT) : Bool := inR v.1 1 1099511627776 && inR v.2.1 0 63 && !(decide (0 < i) && decide (v.1 ≤ (l.getD (i - 1) (0, 0, ())).1))
def vdsOK (l : List VdT) : Bool := allX (vdOK l) 0 l && decide (l.length ≤ 32)

theorem values_eq {l : List Int} (hl : l.length < 4611686018427387904) (m : Nat) : f_codec_values l (m : Int) = some (valsOK l m) := by
  unfold f_codec_values valsOK
  rw [chk0 (l := l) (fun _ n => inR n (-1099511627776) 1099511627776) (e := false) (fun i hi => ?_) (by unfold f_codec_values_l0; simp), allX_all]
  · cases l.all (fun n => inR n (-1099511627776) 1099511627776) <;> simp [sumO]
  · unfold f_codec_values_l0
    simp only [wrap_nat (i := i) (by omega), ix_at hi, Option.bind_some, within_eq]
    rw [if_pos (by simp; omega)]
    cases inR l[i] (-1099511627776) 1099511627776 <;> rfl
theorem valuesR_eq {l : List Int} (hl : l.length < 4611686018427387904) (m : Nat) : f_surmiseref10_Values l (m : Int) = some (valsOK l m) := by
  unfold f_surmiseref10_Values valsOK
  rw [chk0 (l := l) (fun _ n => inR n (-1099511627776) 1099511627776) (e := false) (fun i hi => ?_) (by unfold f_surmiseref10_Values_l0; simp), allX_all]
  · cases l.all (fun n => inR n (-1099511627776) 1099511627776) <;> simp [sumO]
  · unfold f_surmiseref10_Values_l0 f_surmiseref03_Value
    simp only [wrap_nat (i := i) (by omega), ix_at hi, Option.bind_some]
    rw [if_pos (by simp; omega)]
    show (if (!(inR l[i] (-1099511627776) 1099511627776)) = true then _ else _) = _
    cases inR l[i] (-1099511627776) 1099511627776 <;> rfl
theorem head_eq (a b : Int) (s : List UInt8) : f_codec_head a b s = some (headOK a b s) := by
  unfold f_codec_head headOK
  simp only [within_eq, stream_eq, Option.bind_some]
  cases inR a 0 5 <;> cases inR b 1 1099511627776 <;> cases streamOK s <;> rfl
theorem headR_eq (a b : Int) (s : List UInt8) : f_surmiseref10_Head a b s = some (headOK a b s) := by
  unfold f_surmiseref10_Head headOK
  simp only [withinR_eq, streamR_eq, Option.bind_some]
  cases inR a 0 5 <;> cases inR b 1 1099511627776 <;> cases streamOK s <;> rfl
theorem cmd_eq {c : CmdT} (hl : c.2.2.2.2.1.length < 4611686018427387904) : f_codec_cmd c = some (cmdOK c) := by
  unfold f_codec_cmd cmdOK
  simp only [within_eq, head_eq, show (4 : Int) = ((4 : Nat) : Int) from rfl, values_eq hl, Option.bind_some]
  cases headOK c.1 c.2.1 c.2.2.1 <;> cases inR c.2.2.2.1 0 11 <;> cases valsOK c.2.2.2.2.1 4 <;> cases inR c.2.2.2.2.2.1 (-1) 1099511627776 <;> rfl
theorem cmdR_eq {c : CmdT} (hl : c.2.2.2.2.1.length < 4611686018427387904) : f_surmiseref10_Cmd c = some (cmdOK c) := by
  unfold f_surmiseref10_Cmd cmdOK
  simp only [withinR_eq, headR_eq, show (4 : Int) = ((4 : Nat) : Int) from rfl, valuesR_eq hl, Option.bind_some]
  cases headOK c.1 c.2.1 c.2.2.1 <;> cases inR c.2.2.2.1 0 11 <;> cases valsOK c.2.2.2.2.1 4 <;> cases inR c.2.2.2.2.2.1 (-1) 1099511627776 <;> rfl

theorem prev_at {l : List VdT} {i : Nat} (hi : i < l.length) (h0 : 0 < i) : ix l (IntKind.wrap .i64 ((i : Int) - 1)) = some (l.getD (i - 1) (0, 0, ())) ∨ 9223372036854775807 ≤ i := by
  by_cases h : i < 9223372036854775807
  · left
    have hw : IntKind.wrap .i64 ((i : Int) - 1) = ((i - 1 : Nat) : Int) := by rw [wrap_id (by omega) (by omega)]; omega
    rw [hw, ix_at (by omega), List.getD_eq_getElem?_getD, List.getElem?_eq_getElem (by omega)]; rfl
  · right; omega
theorem verdicts_eq {l : List VdT} (hl : l.length < 4611686018427387904) : f_codec_verdicts l = some (vdsOK l) := by
  unfold f_codec_verdicts vdsOK
  rw [chk0 (l := l) (vdOK l) (e := false) (fun i hi => ?_) (by unfold f_codec_verdicts_l0; simp)]
  · cases allX (vdOK l) 0 l <;> simp [sumO]
    omega
  · unfold f_codec_verdicts_l0
    simp only [wrap_nat (i := i) (by omega), ix_at hi, Option.bind_some, within_eq]
    rw [if_pos (by simp; omega)]
    unfold vdOK
    cases inR l[i].1 1 1099511627776 with
    | false => rfl
    | true =>
      cases inR l[i].2.1 0 63 with
      | false => rfl
      | true =>
        simp only [Bool.not_true, Bool.not_false, if_true, Bool.true_and]
        by_cases h0 : 0 < i
        · rcases prev_at hi h0 with h | h
          · rw [if_pos (by simp; omega), h]
            simp only [Option.bind_some, decide_eq_true h0, Bool.true_and]
            by_cases hv : l[i].1 ≤ (l.getD (i - 1) (0, 0, ())).1
            · rw [if_pos (by simpa using hv), if_neg (by simpa using hv)]
            · rw [if_neg (by simpa using hv), if_pos (by simpa using hv)]
          · omega
        · rw [if_neg (by simp; omega), decide_eq_false h0]; rfl
theorem verdictsR_eq {l : List VdT} (hl : l.length < 4611686018427387904) : f_surmiseref10_Verdicts l = some (vdsOK l) := by
  unfold f_surmiseref10_Verdicts vdsOK
  rw [chk0 (l := l) (vdOK l) (e := false) (fun i hi => ?_) (by unfold f_surmiseref10_Verdicts_l0; simp)]
  · cases allX (vdOK l) 0 l <;> simp [sumO]
    omega
  · unfold f_surmiseref10_Verdicts_l0
    simp only [wrap_nat (i := i) (by omega), ix_at hi, Option.bind_some, withinR_eq]
    rw [if_pos (by simp; omega)]
    unfold vdOK
    cases inR l[i].1 1 1099511627776 with
    | false => rfl
    | true =>
      cases inR l[i].2.1 0 63 with
      | false => rfl
      | true =>
        simp only [Bool.not_true, Bool.not_false, if_true, Bool.true_and]
        by_cases h0 : 0 < i
        · rcases prev_at hi h0 with h | h
          · rw [if_pos (by simp; omega), h]
            simp only [Option.bind_some, decide_eq_true h0, Bool.true_and]
            by_cases hv : l[i].1 ≤ (l.getD (i - 1) (0, 0, ())).1
            · rw [if_pos (by simpa using hv), if_neg (by simpa using hv)]
            · rw [if_neg (by simpa using hv), if_pos (by simpa using hv)]
          · omega
        · rw [if_neg (by simp; omega), decide_eq_false h0]; rfl

def layT (s : List UInt8) : List UInt8 := numZ (s.length : Int) ++ s
def layN (l : List Int) : List UInt8 := numZ (l.length : Int) ++ l.flatMap numZ
def layC (c : CmdT) : List UInt8 := numZ c.1 ++ (numZ c.2.1 ++ (layT c.2.2.1 ++ (numZ c.2.2.2.1 ++ (layN c.2.2.2.2.1 ++ numZ c.2.2.2.2.2.1))))
def layV (l : List VdT) : List UInt8 := numZ (l.length : Int) ++ l.flatMap (fun v => numZ v.1 ++ numZ v.2.1)

theorem eq_f90 : f_varint_Number = f90 := eq_90
theorem number_eq {n : Int} (h : I64 n) : f_varint_Number n = some (numZ n) := by rw [eq_f90]; exact f90_all h.1 h.2
theorem I64_nat {n : Nat} (h : n < 9223372036854775808) : I64 (n : Int) := ⟨by omega, by omega⟩
theorem numZ_len {n : Int} (h : I64 n) : (numZ n).length ≤ 10 := by unfold numZ; rw [bytes_len]; exact zI_len h.1 h.2
theorem flat_zI : ∀ {l : List Int}, bytesS (l.flatMap zI) = l.flatMap numZ
  | [] => rfl
  | x :: r => by rw [List.flatMap_cons, List.flatMap_cons, bytes_app, flat_zI]; rfl
theorem flat_len {l : List Int} (h : ∀ n ∈ l, I64 n) : (l.flatMap zI).length ≤ 10 * l.length := by
  induction l with
  | nil => simp
  | cons x r ih =>
    have h1 := zI_len (h x List.mem_cons_self).1 (h x List.mem_cons_self).2
    have h2 := ih fun n hn => h n (List.mem_cons_of_mem _ hn)
    rw [List.flatMap_cons, List.length_append, List.length_cons]; omega

theorem cnum_loop {l : List Int} (h : ∀ n ∈ l, I64 n) : ∀ (k i : Nat) (b : List Int), i + k = l.length → b.length + 10 * k ≤ 140737488355328 → l.length < 4611686018427387904 →
    loopM (f_codec_number_l0 l) (b, (i : Int)) = some (b ++ (l.drop i).flatMap zI)
  | 0, i, b, hi, hb, hl => by
    have : i = l.length := by omega
    subst this
    rw [loopM_end (r := b) (by unfold f_codec_number_l0; simp)]
    simp
  | k + 1, i, b, hi, hb, hl => by
    have hlt : i < l.length := by omega
    have hn := h l[i] (List.getElem_mem hlt)
    have hz := zI_len hn.1 hn.2
    rw [loopM_go (y := (b ++ zI l[i], ((i + 1 : Nat) : Int))) (by
      unfold f_codec_number_l0
      simp only [wrap_nat (i := i) (by omega), ix_at hlt, Option.bind_some, number_eq hn, nums_numZ]
      rw [if_pos (by simp; omega), if_pos (by omega)]), cnum_loop h k (i + 1) _ (by omega) (by rw [List.length_append]; omega) hl]
    have hd : l.drop i = l[i] :: l.drop (i + 1) := by simp
    rw [hd, List.flatMap_cons, List.append_assoc]
theorem cnum_eq {b l : List Int} (h : ∀ n ∈ l, I64 n) (hb : b.length + 10 * l.length ≤ 140737488355328) : f_codec_number b l = some (b ++ l.flatMap zI) := by
  unfold f_codec_number
  have := cnum_loop h l.length 0 b (by omega) hb (by omega)
  rw [show (0 : Int) = ((0 : Nat) : Int) from rfl, this]
  simp

theorem vlist_loop {l : List Int} (h : ∀ n ∈ l, I64 n) : ∀ (k i : Nat) (b : List Int), i + k = l.length → b.length + 10 * k ≤ 140737488355328 → l.length ≤ 256 →
    loopM (f_varint_list_int_varint_Numbers_1_l0 l) (b, (i : Int)) = some (.inl (b ++ (l.drop i).flatMap zI))
  | 0, i, b, hi, hb, hl => by
    have : i = l.length := by omega
    subst this
    rw [loopM_end (r := .inl b) (by unfold f_varint_list_int_varint_Numbers_1_l0; simp)]
    simp
  | k + 1, i, b, hi, hb, hl => by
    have hlt : i < l.length := by omega
    have hn := h l[i] (List.getElem_mem hlt)
    have hz := zI_len hn.1 hn.2
    rw [loopM_go (y := (b ++ zI l[i], ((i + 1 : Nat) : Int))) (by
      unfold f_varint_list_int_varint_Numbers_1_l0 f_varint_Numbers_1
      simp only [wrap_nat (i := i) (by omega), ix_at hlt, Option.bind_some, number_eq hn, nums_numZ]
      rw [if_pos (by simp; omega), if_neg (by decide), if_pos (by omega)]), vlist_loop h k (i + 1) _ (by omega) (by rw [List.length_append]; omega) hl]
    have hd : l.drop i = l[i] :: l.drop (i + 1) := by simp
    rw [hd, List.flatMap_cons, List.append_assoc]
theorem vnums_eq {l : List Int} (h : ∀ n ∈ l, I64 n) : f_varint_Numbers l = some (if l.length > 256 then ([], 4) else (layN l, 0)) := by
  unfold f_varint_Numbers f_varint_list_int_varint_Numbers_1
  by_cases hl : l.length > 256
  · rw [if_pos (by simp; omega), if_pos hl]; rfl
  · have hi : I64 (l.length : Int) := I64_nat (by omega)
    have h1 := numZ_len hi
    rw [if_neg (by simp; omega), if_neg hl, number_eq hi]
    simp only [Option.bind_some, nums_numZ]
    rw [if_pos (by omega)]
    have h2 := zI_len hi.1 hi.2
    have := vlist_loop h l.length 0 (zI (l.length : Int)) (by omega) (by omega) (by omega)
    rw [show ((0 : Nat) : Int) = (0 : Int) from rfl] at this
    rw [this]
    simp only [Option.bind_some, sumO, List.drop_zero, bytes_app, flat_zI]
    rfl
theorem vtext_eq {s : List UInt8} (hs : s.length < 4611686018427387904) : f_varint_Text s = some (if s.length > 4096 then ([], 4) else (layT s, 0)) := by
  unfold f_varint_Text
  by_cases hl : s.length > 4096
  · rw [if_pos (by simp; omega), if_pos hl]
  · have hi : I64 (s.length : Int) := I64_nat (by omega)
    have h1 := numZ_len hi
    rw [if_neg (by simp; omega), if_neg hl, number_eq hi]
    simp only [Option.bind_some]
    rw [if_pos (by omega)]
    rfl

theorem layT_len {s : List UInt8} (h : s.length ≤ 4096) : (layT s).length ≤ 4106 := by
  have := numZ_len (I64_nat (n := s.length) (by omega))
  unfold layT
  rw [List.length_append]; omega
theorem flatZ_len {l : List Int} (h : ∀ n ∈ l, I64 n) : (l.flatMap numZ).length ≤ 10 * l.length := by
  rw [← flat_zI, bytes_len]; exact flat_len h
theorem layN_len {l : List Int} (h : ∀ n ∈ l, I64 n) (hl : l.length ≤ 256) : (layN l).length ≤ 2570 := by
  have h1 := numZ_len (I64_nat (n := l.length) (by omega))
  have h2 := flatZ_len h
  unfold layN
  rw [List.length_append]; omega

theorem ctext_eq {b : List Int} {s : List UInt8} (hs : s.length < 4611686018427387904) (hb : b.length ≤ 100000) : ∃ t, f_codec_text b s = some (b ++ nums8 t) ∧ t.length ≤ 4106 ∧ (s.length ≤ 4096 → t = layT s) := by
  unfold f_codec_text
  rw [vtext_eq hs]
  by_cases hl : s.length > 4096
  · rw [if_pos hl]
    refine ⟨[], ?_, by simp, fun h => by omega⟩
    simp only [Option.bind_some]
    rw [if_pos (by simp [nums8]; omega)]
  · rw [if_neg hl]
    have := layT_len (s := s) (by omega)
    refine ⟨layT s, ?_, this, fun _ => rfl⟩
    simp only [Option.bind_some]
    rw [if_pos (by rw [nums_len]; omega)]
theorem cnums_eq {b l : List Int} (h : ∀ n ∈ l, I64 n) (hb : b.length ≤ 100000) : ∃ t, f_codec_numbers b l = some (b ++ nums8 t) ∧ t.length ≤ 2570 ∧ (l.length ≤ 256 → t = layN l) := by
  unfold f_codec_numbers
  rw [vnums_eq h]
  by_cases hl : l.length > 256
  · rw [if_pos hl]
    refine ⟨[], ?_, by simp, fun h => by omega⟩
    simp only [Option.bind_some]
    rw [if_pos (by simp [nums8]; omega)]
  · rw [if_neg hl]
    have := layN_len h (by omega)
    refine ⟨layN l, ?_, this, fun _ => rfl⟩
    simp only [Option.bind_some]
    rw [if_pos (by rw [nums_len]; omega)]

structure CmdFit (c : CmdT) : Prop where
  a : I64 c.1
  b : I64 c.2.1
  s : c.2.2.1.length < 4611686018427387904
  r : I64 c.2.2.2.1
  l : ∀ n ∈ c.2.2.2.2.1, I64 n
  n : c.2.2.2.2.1.length ≤ 1048576
  e : I64 c.2.2.2.2.2.1
theorem streamOK_len {s : List UInt8} (h : streamOK s = true) : s.length ≤ 32 := by
  unfold streamOK at h
  simp only [Bool.and_eq_true, decide_eq_true_eq] at h
  exact h.1
theorem PutCmd_eq {c : CmdT} (h : CmdFit c) : f_codec_PutCmd c = some (if cmdOK c = true then (layC c, 0) else ([], 2)) := by
  unfold f_codec_PutCmd
  rw [cnum_eq (l := [c.1, c.2.1]) (by simp only [List.mem_cons, List.not_mem_nil, or_false, forall_eq_or_imp, forall_eq]; exact ⟨h.a, h.b⟩) (by simp)]
  have l1 := zI_len h.a.1 h.a.2
  have l2 := zI_len h.b.1 h.b.2
  have l3 := zI_len h.r.1 h.r.2
  simp only [Option.bind_some, List.flatMap_cons, List.flatMap_nil, List.append_nil, List.nil_append]
  obtain ⟨t, t1, t2, t3⟩ := ctext_eq (b := zI c.1 ++ zI c.2.1) h.s (by simp; omega)
  rw [t1]
  simp only [Option.bind_some]
  have tl : (nums8 t).length = t.length := nums_len t
  rw [cnum_eq (l := [c.2.2.2.1]) (by simpa using h.r) (by simp [nums_len]; omega)]
  simp only [Option.bind_some, List.flatMap_cons, List.flatMap_nil, List.append_nil]
  obtain ⟨u, u1, u2, u3⟩ := cnums_eq (b := zI c.1 ++ zI c.2.1 ++ nums8 t ++ zI c.2.2.2.1) h.l (by simp [nums_len]; omega)
  rw [u1]
  simp only [Option.bind_some]
  rw [cmd_eq (by have := h.n; omega), cnum_eq (l := [c.2.2.2.2.2.1]) (by simpa using h.e) (by simp [nums_len]; omega)]
  simp only [Option.bind_some, List.flatMap_cons, List.flatMap_nil, List.append_nil]
  unfold f_codec_laid
  by_cases hc : cmdOK c = true
  · rw [if_neg (by rw [hc]; simp), if_pos hc]
    have hc' := hc
    unfold cmdOK headOK at hc'
    simp only [Bool.and_eq_true] at hc'
    have hs := streamOK_len hc'.1.1.1.2
    have hn : c.2.2.2.2.1.length ≤ 4 := by
      have := hc'.1.2
      unfold valsOK at this
      simp only [Bool.and_eq_true, decide_eq_true_eq] at this
      exact this.2
    rw [t3 (by omega), u3 (by omega)]
    simp only [Option.bind_some, bytes_app, bytes_nums]
    unfold layC
    simp only [List.append_assoc]
    rfl
  · rw [if_pos (by simpa using hc), if_neg hc]; rfl

theorem vlay_loop {l : List VdT} (h : ∀ v ∈ l, I64 v.1 ∧ I64 v.2.1) : ∀ (k i : Nat) (b : List Int), i + k = l.length → b.length + 20 * k ≤ 140737488355328 → l.length < 4611686018427387904 →
    loopM (f_codec_list_api_Verdict_codec_PutVerdicts_1_l0 l) (b, (i : Int)) = some (b ++ (l.drop i).flatMap (fun v => zI v.1 ++ zI v.2.1))
  | 0, i, b, hi, hb, hl => by
    have : i = l.length := by omega
    subst this
    rw [loopM_end (r := b) (by unfold f_codec_list_api_Verdict_codec_PutVerdicts_1_l0; simp)]
    simp
  | k + 1, i, b, hi, hb, hl => by
    have hlt : i < l.length := by omega
    have hn := h l[i] (List.getElem_mem hlt)
    have hz := zI_len hn.1.1 hn.1.2
    have hz2 := zI_len hn.2.1 hn.2.2
    rw [loopM_go (y := (b ++ (zI l[i].1 ++ zI l[i].2.1), ((i + 1 : Nat) : Int))) (by
      unfold f_codec_list_api_Verdict_codec_PutVerdicts_1_l0 f_codec_PutVerdicts_1
      simp only [wrap_nat (i := i) (by omega), ix_at hlt, Option.bind_some]
      rw [if_pos (by simp; omega), cnum_eq (l := [l[i].1, l[i].2.1]) (by simp only [List.mem_cons, List.not_mem_nil, or_false, forall_eq_or_imp, forall_eq]; exact hn) (by simp; omega)]
      simp), vlay_loop h k (i + 1) _ (by omega) (by simp only [List.length_append]; omega) hl]
    have hd : l.drop i = l[i] :: l.drop (i + 1) := by simp
    rw [hd, List.flatMap_cons, List.append_assoc]
theorem flat_zV : ∀ {l : List VdT}, bytesS (l.flatMap (fun v => zI v.1 ++ zI v.2.1)) = l.flatMap (fun v => numZ v.1 ++ numZ v.2.1)
  | [] => rfl
  | x :: r => by rw [List.flatMap_cons, List.flatMap_cons, bytes_app, bytes_app, flat_zV]; rfl
theorem PutVerdicts_eq {l : List VdT} (h : ∀ v ∈ l, I64 v.1 ∧ I64 v.2.1) (hl : l.length ≤ 1048576) : f_codec_PutVerdicts l = some (if vdsOK l = true then (layV l, 0) else ([], 2)) := by
  unfold f_codec_PutVerdicts f_codec_list_api_Verdict_codec_PutVerdicts_1
  have hi : I64 (l.length : Int) := I64_nat (by omega)
  have h2 := zI_len hi.1 hi.2
  rw [verdicts_eq (by omega), cnum_eq (l := [(l.length : Int)]) (by simpa using hi) (by simp)]
  simp only [Option.bind_some, List.flatMap_cons, List.flatMap_nil, List.append_nil, List.nil_append]
  have := vlay_loop h l.length 0 (zI (l.length : Int)) (by omega) (by omega) (by omega)
  rw [show ((0 : Nat) : Int) = (0 : Int) from rfl] at this
  rw [this]
  simp only [Option.bind_some, List.drop_zero]
  unfold f_codec_laid
  by_cases hc : vdsOK l = true
  · rw [if_neg (by rw [hc]; simp), if_pos hc, bytes_app, flat_zV]; rfl
  · rw [if_pos (by simpa using hc), if_neg hc]; rfl
end Go.Proofs.YtbnmhjobnepajaaGreat.M


namespace Go.Proofs.YtbnmhjobnepajaaGreat.M

theorem drop_app {α : Type} {s a r : List α} {p : Nat} (h : s.drop p = a ++ r) : s.drop (p + a.length) = r := by
  rw [← List.drop_drop, h, List.drop_left]
theorem drop_le {α : Type} {s a r : List α} {p : Nat} (h : s.drop p = a ++ r) (ha : 0 < a.length) : p + a.length ≤ s.length := by
  have := congrArg List.length h
  rw [List.length_drop, List.length_append] at this
  omega
theorem numZ_pos (n : Int) : 0 < (numZ n).length := by unfold numZ; rw [bytes_len]; exact vbI_pos _

def Val (n : Int) : Prop := -2199023255552 ≤ n ∧ n ≤ 2199023255552
theorem rn_eq {s : List UInt8} {p : Nat} {n : Int} {rest : List UInt8} (hs : s.length < 1073741824) (hn : Val n) (hd : s.drop p = numZ n ++ rest) : f_varint_ReadNumber s (p : Int) = some (n, ((p + (numZ n).length : Nat) : Int), 0) := by
  have := drop_le hd (numZ_pos n)
  rw [eq_113]; exact f113_numZ (by omega) hn.1 hn.2 (by omega) hd
theorem count_eq {s : List UInt8} {p n : Nat} {m : Int} {rest : List UInt8} (hs : s.length < 1073741824) (hn : (n : Int) ≤ m) (hm : m ≤ 10000) (hd : s.drop p = numZ (n : Int) ++ rest) : f_varint_count s (p : Int) m = some ((n : Int), ((p + (numZ (n : Int)).length : Nat) : Int), 0) := by
  unfold f_varint_count
  rw [rn_eq hs ⟨by omega, by omega⟩ hd]
  simp only [Option.bind_some]
  rw [if_neg (by decide), if_neg (by simp), if_neg (by simp; omega)]
theorem rtext_eq {s : List UInt8} {p : Nat} {t rest : List UInt8} (hs : s.length < 1073741824) (ht : t.length ≤ 4096) (hd : s.drop p = layT t ++ rest) : f_varint_ReadText s (p : Int) = some (t, ((p + (layT t).length : Nat) : Int), 0) := by
  have hd' := hd
  unfold layT at hd'
  rw [List.append_assoc] at hd'
  have h1 := drop_le hd (by unfold layT; rw [List.length_append]; have := numZ_pos (t.length : Int); omega)
  have h2 := drop_app hd'
  have e1 : (layT t).length = (numZ (t.length : Int)).length + t.length := by unfold layT; rw [List.length_append]
  unfold f_varint_ReadText
  rw [count_eq (m := 4096) hs (by omega) (by omega) hd']
  simp only [Option.bind_some]
  have hw : IntKind.wrap .i64 ((s.length : Int) - ((p + (numZ (t.length : Int)).length : Nat) : Int)) = ((s.length - (p + (numZ (t.length : Int)).length) : Nat) : Int) := by rw [wrap_id (by omega) (by omega)]; omega
  have hw2 : IntKind.wrap .i64 (((p + (numZ (t.length : Int)).length : Nat) : Int) + (t.length : Int)) = ((p + (layT t).length : Nat) : Int) := by rw [wrap_id (by omega) (by omega)]; omega
  rw [hw, hw2, if_neg (by decide), if_neg (by simp; omega), if_pos (by omega)]
  rw [show (((p + (layT t).length : Nat) : Int)).toNat = p + (layT t).length by omega, show (((p + (numZ (t.length : Int)).length : Nat) : Int)).toNat = p + (numZ (t.length : Int)).length by omega]
  congr 2
  rw [List.drop_take, h2, show p + (layT t).length - (p + (numZ (t.length : Int)).length) = t.length by omega, List.take_left]

theorem rnums_loop {s : List UInt8} {x0 : Int × Int × Int} {l : List Int} (hs : s.length < 1073741824) (hl : l.length ≤ 256) (hx : x0.1 = (l.length : Int)) (hv : ∀ n ∈ l, Val n) : ∀ (k i p : Nat) (rest : List UInt8), i + k = l.length → s.drop p = (l.drop i).flatMap numZ ++ rest →
    loopM (f_varint_read_int_varint_ReadNumber_l0 s x0) ((p : Int), l.take i, (i : Int)) = some (.inl (((p + ((l.drop i).flatMap numZ).length : Nat) : Int), l))
  | 0, i, p, rest, hi, hd => by
    have : i = l.length := by omega
    subst this
    rw [loopM_end (r := .inl ((p : Int), l)) (by unfold f_varint_read_int_varint_ReadNumber_l0; simp [hx])]
    simp
  | k + 1, i, p, rest, hi, hd => by
    have hlt : i < l.length := by omega
    have hdi : l.drop i = l[i] :: l.drop (i + 1) := by simp
    have hd' := hd
    rw [hdi, List.flatMap_cons, List.append_assoc] at hd'
    rw [loopM_go (y := (((p + (numZ l[i]).length : Nat) : Int), l.take (i + 1), ((i + 1 : Nat) : Int))) (by
      unfold f_varint_read_int_varint_ReadNumber_l0
      simp only [wrap_nat (i := i) (by omega), rn_eq hs (hv _ (List.getElem_mem hlt)) hd', Option.bind_some, hx]
      rw [if_pos (by simp; omega), if_neg (by decide), if_pos (by simp; omega), List.take_succ_eq_append_getElem hlt]), rnums_loop hs hl hx hv k (i + 1) _ rest (by omega) (drop_app hd')]
    rw [hdi, List.flatMap_cons, List.length_append]
    congr 3
    omega
theorem rnums_eq {s : List UInt8} {p : Nat} {l : List Int} {rest : List UInt8} (hs : s.length < 1073741824) (hl : l.length ≤ 256) (hv : ∀ n ∈ l, Val n) (hd : s.drop p = layN l ++ rest) : f_varint_ReadNumbers s (p : Int) = some (l, ((p + (layN l).length : Nat) : Int), 0) := by
  have hd' := hd
  unfold layN at hd'
  rw [List.append_assoc] at hd'
  unfold f_varint_ReadNumbers f_varint_read_int_varint_ReadNumber
  rw [count_eq (m := 256) hs (by omega) (by omega) hd']
  simp only [Option.bind_some]
  rw [if_neg (by decide)]
  have := rnums_loop (x0 := ((l.length : Int), ((p + (numZ (l.length : Int)).length : Nat) : Int), 0)) hs hl rfl hv l.length 0 (p + (numZ (l.length : Int)).length) rest (by omega) (drop_app hd')
  simp only [List.take_zero, List.drop_zero] at this
  rw [show ((0 : Nat) : Int) = (0 : Int) from rfl] at this
  rw [this]
  simp only [Option.bind_some, sumO]
  unfold layN
  rw [List.length_append, Nat.add_assoc]

def rdr (σ : St) (x : denFs fs_codec_reader) : St := σ.set_codec_reader (σ.t_codec_reader ++ [x])
theorem rdr_get (σ : St) (x : denFs fs_codec_reader) : (rdr σ x).t_codec_reader[σ.t_codec_reader.length]? = some x := by
  unfold rdr St.set_codec_reader
  simp
theorem rdr_tab (σ : St) (x y : denFs fs_codec_reader) : (rdr σ x).t_codec_reader.set σ.t_codec_reader.length y = (rdr σ y).t_codec_reader := by
  unfold rdr St.set_codec_reader
  simp
theorem step_num {σ : St} {s : List UInt8} {p : Nat} {n : Int} {rest : List UInt8} (hs : s.length < 1073741824) (hn : Val n) (hd : s.drop p = numZ n ++ rest) :
    f_codec_reader_number (some σ.t_codec_reader.length) (rdr σ (s, (p : Int), 0, ())) = some (n, rdr σ (s, ((p + (numZ n).length : Nat) : Int), 0, ())) := by
  unfold f_codec_reader_number
  have hg := rdr_get σ (s, (p : Int), 0, ())
  simp only [Option.bind_some, hg, rn_eq hs hn hd]
  rw [if_neg (by decide)]
  have h1 := rdr_tab σ (s, (p : Int), 0, ()) (s, ((p + (numZ n).length : Nat) : Int), 0, ())
  have h2 := rdr_get σ (s, ((p + (numZ n).length : Nat) : Int), 0, ())
  have h3 := rdr_tab σ (s, ((p + (numZ n).length : Nat) : Int), 0, ()) (s, ((p + (numZ n).length : Nat) : Int), 0, ())
  rw [h1, h2]
  simp only [Option.bind_some]
  rw [h3]
  rfl
theorem step_text {σ : St} {s : List UInt8} {p : Nat} {t rest : List UInt8} (hs : s.length < 1073741824) (ht : t.length ≤ 4096) (hd : s.drop p = layT t ++ rest) :
    f_codec_reader_text (some σ.t_codec_reader.length) (rdr σ (s, (p : Int), 0, ())) = some (t, rdr σ (s, ((p + (layT t).length : Nat) : Int), 0, ())) := by
  unfold f_codec_reader_text
  have hg := rdr_get σ (s, (p : Int), 0, ())
  simp only [Option.bind_some, hg, rtext_eq hs ht hd]
  rw [if_neg (by decide)]
  have h1 := rdr_tab σ (s, (p : Int), 0, ()) (s, ((p + (layT t).length : Nat) : Int), 0, ())
  have h2 := rdr_get σ (s, ((p + (layT t).length : Nat) : Int), 0, ())
  have h3 := rdr_tab σ (s, ((p + (layT t).length : Nat) : Int), 0, ()) (s, ((p + (layT t).length : Nat) : Int), 0, ())
  rw [h1, h2]
  simp only [Option.bind_some]
  rw [h3]
  rfl
theorem step_nums {σ : St} {s : List UInt8} {p : Nat} {l : List Int} {rest : List UInt8} (hs : s.length < 1073741824) (hl : l.length ≤ 256) (hv : ∀ n ∈ l, Val n) (hd : s.drop p = layN l ++ rest) :
    f_codec_reader_numbers (some σ.t_codec_reader.length) (rdr σ (s, (p : Int), 0, ())) = some (l, rdr σ (s, ((p + (layN l).length : Nat) : Int), 0, ())) := by
  unfold f_codec_reader_numbers
  have hg := rdr_get σ (s, (p : Int), 0, ())
  simp only [Option.bind_some, hg, rnums_eq hs hl hv hd]
  rw [if_neg (by decide)]
  have h1 := rdr_tab σ (s, (p : Int), 0, ()) (s, ((p + (layN l).length : Nat) : Int), 0, ())
  have h2 := rdr_get σ (s, ((p + (layN l).length : Nat) : Int), 0, ())
  have h3 := rdr_tab σ (s, ((p + (layN l).length : Nat) : Int), 0, ()) (s, ((p + (layN l).length : Nat) : Int), 0, ())
  rw [h1, h2]
  simp only [Option.bind_some]
  rw [h3]
  rfl

theorem cmdOK_parts {c : CmdT} (h : cmdOK c = true) : (0 ≤ c.1 ∧ c.1 ≤ 5) ∧ (1 ≤ c.2.1 ∧ c.2.1 ≤ 1099511627776) ∧ c.2.2.1.length ≤ 32 ∧ (0 ≤ c.2.2.2.1 ∧ c.2.2.2.1 ≤ 11) ∧ (∀ n ∈ c.2.2.2.2.1, -1099511627776 ≤ n ∧ n ≤ 1099511627776) ∧ c.2.2.2.2.1.length ≤ 4 ∧ (-1 ≤ c.2.2.2.2.2.1 ∧ c.2.2.2.2.2.1 ≤ 1099511627776) := by
  unfold cmdOK headOK valsOK at h
  simp only [Bool.and_eq_true, List.all_eq_true, decide_eq_true_eq, inR_iff] at h
  obtain ⟨⟨⟨⟨⟨h1, h2⟩, h3⟩, h4⟩, h5, h6⟩, h7⟩ := h
  exact ⟨h1, h2, streamOK_len h3, h4, h5, h6, h7⟩
theorem layC_len {c : CmdT} (h : cmdOK c = true) : (layC c).length ≤ 200 ∧ 0 < (layC c).length := by
  obtain ⟨h1, h2, h3, h4, h5, h6, h7⟩ := cmdOK_parts h
  have z : ∀ {n : Int}, -1099511627776 ≤ n → n ≤ 1099511627776 → (numZ n).length ≤ 10 := fun a b => numZ_len ⟨by omega, by omega⟩
  have a1 := z (n := c.1) (by omega) (by omega)
  have a2 := z (n := c.2.1) (by omega) (by omega)
  have a3 := z (n := c.2.2.2.1) (by omega) (by omega)
  have a4 := z (n := c.2.2.2.2.2.1) (by omega) (by omega)
  have a5 := z (n := (c.2.2.1.length : Int)) (by omega) (by omega)
  have a6 := z (n := (c.2.2.2.2.1.length : Int)) (by omega) (by omega)
  have a7 := flatZ_len (l := c.2.2.2.2.1) (fun n hn => ⟨by have := h5 n hn; omega, by have := h5 n hn; omega⟩)
  have p1 := numZ_pos c.1
  unfold layC layT layN
  simp only [List.length_append]
  omega

theorem end_cmd {σ : St} {s : List UInt8} {p : Nat} {c : CmdT} (hc : cmdOK c = true) : f_codec_end_api_Cmd_codec_cmd (some σ.t_codec_reader.length) c () (rdr σ (s, (p : Int), 0, ())) = some ((c, (p : Int), 0), rdr σ (s, (p : Int), 0, ())) := by
  unfold f_codec_end_api_Cmd_codec_cmd
  have hg := rdr_get σ (s, (p : Int), 0, ())
  simp only [Option.bind_some, hg, cmd_eq (c := c) (by have := (cmdOK_parts hc).2.2.2.2.2.1; omega), hc]
  simp [hg]
theorem ReadCmd_eq {σ : St} {c : CmdT} (hc : cmdOK c = true) : f_codec_ReadCmd (layC c) 0 σ = some ((c, ((layC c).length : Int), 0), rdr σ (layC c, ((layC c).length : Int), 0, ())) := by
  obtain ⟨h1, h2, h3, h4, h5, h6, h7⟩ := cmdOK_parts hc
  have hl := (layC_len hc).1
  generalize hsd : layC c = s at *
  have hs : s.length < 1073741824 := by omega
  have d0 : s.drop 0 = numZ c.1 ++ (numZ c.2.1 ++ (layT c.2.2.1 ++ (numZ c.2.2.2.1 ++ (layN c.2.2.2.2.1 ++ (numZ c.2.2.2.2.2.1 ++ []))))) := by
    rw [← hsd, List.append_nil]; rfl
  have d1 := drop_app d0
  have d2 := drop_app d1
  have d3 := drop_app d2
  have d4 := drop_app d3
  have d5 := drop_app d4
  unfold f_codec_ReadCmd
  have e0 : σ.set_codec_reader (σ.t_codec_reader ++ [(s, (0 : Int), (0 : Int), ())]) = rdr σ (s, ((0 : Nat) : Int), 0, ()) := rfl
  rw [e0, step_num hs ⟨by omega, by omega⟩ d0]
  simp only [Option.bind_some]
  rw [step_num hs ⟨by omega, by omega⟩ d1]
  simp only [Option.bind_some]
  rw [step_text hs (by omega) d2]
  simp only [Option.bind_some]
  rw [step_num hs ⟨by omega, by omega⟩ d3]
  simp only [Option.bind_some]
  rw [step_nums hs (by omega) (fun n hn => ⟨by have := h5 n hn; omega, by have := h5 n hn; omega⟩) d4]
  simp only [Option.bind_some]
  rw [step_num hs ⟨by omega, by omega⟩ d5]
  simp only [Option.bind_some]
  have hc' : cmdOK (c.1, c.2.1, c.2.2.1, c.2.2.2.1, c.2.2.2.2.1, c.2.2.2.2.2.1, ()) = true := hc
  rw [end_cmd hc']
  have hend : 0 + (numZ c.1).length + (numZ c.2.1).length + (layT c.2.2.1).length + (numZ c.2.2.2.1).length + (layN c.2.2.2.2.1).length + (numZ c.2.2.2.2.2.1).length = s.length := by
    rw [← hsd]
    unfold layC
    simp only [List.length_append]
    omega
  rw [hend]
  rfl
theorem whole_cmd {σ : St} {c : CmdT} (hc : cmdOK c = true) : f_pending_whole_api_Cmd_codec_ReadCmd (layC c) () σ = some ((c, true), rdr σ (layC c, ((layC c).length : Int), 0, ())) := by
  unfold f_pending_whole_api_Cmd_codec_ReadCmd
  rw [ReadCmd_eq hc]
  simp

theorem vdsOK_each {l : List VdT} (h : vdsOK l = true) : l.length ≤ 32 ∧ ∀ v ∈ l, (1 ≤ v.1 ∧ v.1 ≤ 1099511627776) ∧ 0 ≤ v.2.1 ∧ v.2.1 ≤ 63 := by
  unfold vdsOK at h
  simp only [Bool.and_eq_true, decide_eq_true_eq] at h
  obtain ⟨h1, h2⟩ := h
  refine ⟨h2, fun v hv => ?_⟩
  have key : ∀ (m : List VdT) (i : Nat), allX (vdOK l) i m = true → ∀ v ∈ m, (1 ≤ v.1 ∧ v.1 ≤ 1099511627776) ∧ 0 ≤ v.2.1 ∧ v.2.1 ≤ 63 := by
    intro m
    induction m with
    | nil => intro i _ v hv; simp at hv
    | cons x r ih =>
      intro i hx v hv
      unfold allX at hx
      rw [Bool.and_eq_true] at hx
      rcases List.mem_cons.1 hv with rfl | hv
      · have := hx.1
        unfold vdOK at this
        simp only [Bool.and_eq_true, inR_iff] at this
        exact ⟨this.1.1, this.1.2⟩
      · exact ih (i + 1) hx.2 v hv
  exact key l 0 h1 v hv
theorem some_loop {s : List UInt8} {σ : St} {x0 : Int × St} {l : List VdT} (hs : s.length < 1073741824) (hx : x0.1 = (l.length : Int)) (hl : l.length ≤ 32) (hv : ∀ v ∈ l, (1 ≤ v.1 ∧ v.1 ≤ 1099511627776) ∧ 0 ≤ v.2.1 ∧ v.2.1 ≤ 63) : ∀ (k i p : Nat) (rest : List UInt8), i + k = l.length → s.drop p = (l.drop i).flatMap (fun v => numZ v.1 ++ numZ v.2.1) ++ rest →
    loopM (f_codec_some_api_Verdict_codec_ReadVerdicts_1_l0 (some σ.t_codec_reader.length) x0) (l.take i, (i : Int), rdr σ (s, (p : Int), 0, ())) = some (l, rdr σ (s, ((p + ((l.drop i).flatMap (fun v => numZ v.1 ++ numZ v.2.1)).length : Nat) : Int), 0, ()))
  | 0, i, p, rest, hi, hd => by
    have : i = l.length := by omega
    subst this
    rw [loopM_end (r := (l, rdr σ (s, (p : Int), 0, ()))) (by unfold f_codec_some_api_Verdict_codec_ReadVerdicts_1_l0; simp [hx])]
    simp
  | k + 1, i, p, rest, hi, hd => by
    have hlt : i < l.length := by omega
    have hdi : l.drop i = l[i] :: l.drop (i + 1) := by simp
    have hd' := hd
    rw [hdi, List.flatMap_cons, List.append_assoc, List.append_assoc] at hd'
    have hd2 := drop_app hd'
    obtain ⟨v1, v2⟩ := hv _ (List.getElem_mem hlt)
    rw [loopM_go (y := (l.take (i + 1), ((i + 1 : Nat) : Int), rdr σ (s, ((p + (numZ l[i].1).length + (numZ l[i].2.1).length : Nat) : Int), 0, ()))) (by
      unfold f_codec_some_api_Verdict_codec_ReadVerdicts_1_l0 f_codec_ReadVerdicts_1
      have hlt' : (i : Int) < x0.1 := by omega
      have hg := rdr_get σ (s, (p : Int), 0, ())
      simp only [hlt', decide_true, if_true, Option.bind_some, hg, wrap_nat (i := i) (by omega), beq_self_eq_true, Bool.and_self, step_num hs (n := l[i].1) ⟨by omega, by omega⟩ hd', step_num hs (n := l[i].2.1) ⟨by omega, by omega⟩ hd2]
      rw [if_pos (by simp; omega), List.take_succ_eq_append_getElem hlt]), some_loop hs hx hl hv k (i + 1) _ rest (by omega) (drop_app hd2)]
    rw [hdi, List.flatMap_cons, List.length_append, List.length_append]
    rw [show p + (numZ l[i].1).length + (numZ l[i].2.1).length + ((l.drop (i + 1)).flatMap fun v => numZ v.1 ++ numZ v.2.1).length = p + ((numZ l[i].1).length + (numZ l[i].2.1).length + ((l.drop (i + 1)).flatMap fun v => numZ v.1 ++ numZ v.2.1).length) by omega]
theorem some_eq {s : List UInt8} {σ : St} {l : List VdT} {p : Nat} {rest : List UInt8} (hs : s.length < 1073741824) (hl : l.length ≤ 32) (hv : ∀ v ∈ l, (1 ≤ v.1 ∧ v.1 ≤ 1099511627776) ∧ 0 ≤ v.2.1 ∧ v.2.1 ≤ 63) (hd : s.drop p = layV l ++ rest) :
    f_codec_some_api_Verdict_codec_ReadVerdicts_1 (some σ.t_codec_reader.length) 32 () (rdr σ (s, (p : Int), 0, ())) = some (l, rdr σ (s, ((p + (layV l).length : Nat) : Int), 0, ())) := by
  unfold f_codec_some_api_Verdict_codec_ReadVerdicts_1
  have hd' := hd
  unfold layV at hd'
  rw [List.append_assoc] at hd'
  rw [step_num hs (n := (l.length : Int)) ⟨by omega, by omega⟩ hd']
  have hin : inR (l.length : Int) 0 32 = true := inR_iff.2 ⟨by omega, by omega⟩
  have hg := rdr_get σ (s, ((p + (numZ (l.length : Int)).length : Nat) : Int), 0, ())
  simp only [Option.bind_some, hg, beq_self_eq_true, if_true, within_eq, hin, Bool.not_true, Bool.and_false, Bool.false_eq_true, if_false]
  have := some_loop (σ := σ) (x0 := ((l.length : Int), rdr σ (s, ((p + (numZ (l.length : Int)).length : Nat) : Int), 0, ()))) hs rfl hl hv l.length 0 (p + (numZ (l.length : Int)).length) rest (by omega) (drop_app hd')
  simp only [List.take_zero, List.drop_zero] at this
  rw [show ((0 : Nat) : Int) = (0 : Int) from rfl] at this
  rw [this]
  simp only [Option.bind_some]
  unfold layV
  rw [List.length_append, Nat.add_assoc]
theorem layV_len {l : List VdT} (h : vdsOK l = true) : (layV l).length ≤ 700 ∧ 0 < (layV l).length := by
  obtain ⟨h1, h2⟩ := vdsOK_each h
  have a1 := numZ_len (n := (l.length : Int)) (I64_nat (by omega))
  have p1 := numZ_pos (l.length : Int)
  have key : ∀ (m : List VdT), (∀ v ∈ m, v ∈ l) → (m.flatMap (fun v => numZ v.1 ++ numZ v.2.1)).length ≤ 20 * m.length := by
    intro m
    induction m with
    | nil => intro _; simp
    | cons x r ih =>
      intro hm
      have := ih fun v hv => hm v (List.mem_cons_of_mem _ hv)
      obtain ⟨b1, b2⟩ := h2 x (hm x List.mem_cons_self)
      have c1 := numZ_len (n := x.1) ⟨by omega, by omega⟩
      have c2 := numZ_len (n := x.2.1) ⟨by omega, by omega⟩
      rw [List.flatMap_cons, List.length_append, List.length_append, List.length_cons]; omega
  have := key l fun _ h => h
  unfold layV
  rw [List.length_append]
  omega
theorem whole_vds {σ : St} {l : List VdT} (h : vdsOK l = true) : f_pending_whole_api_Verdict_codec_ReadVerdicts (layV l) () σ = some ((l, true), rdr σ (layV l, ((layV l).length : Int), 0, ())) := by
  obtain ⟨h1, h2⟩ := vdsOK_each h
  have hl := (layV_len h).1
  unfold f_pending_whole_api_Verdict_codec_ReadVerdicts f_codec_ReadVerdicts
  have e0 : σ.set_codec_reader (σ.t_codec_reader ++ [(layV l, (0 : Int), (0 : Int), ())]) = rdr σ (layV l, ((0 : Nat) : Int), 0, ()) := rfl
  rw [e0, some_eq (rest := []) (by omega) h1 h2 (by simp)]
  simp only [Option.bind_some, Nat.zero_add]
  have e1 : f_codec_end_api_Verdict_codec_verdicts (some σ.t_codec_reader.length) l () (rdr σ (layV l, ((layV l).length : Int), 0, ())) = some ((l, ((layV l).length : Int), 0), rdr σ (layV l, ((layV l).length : Int), 0, ())) := by
    unfold f_codec_end_api_Verdict_codec_verdicts
    have hg := rdr_get σ (layV l, ((layV l).length : Int), 0, ())
    simp only [Option.bind_some, hg, verdicts_eq (l := l) (by omega), h]
    simp [hg]
  rw [e1]
  simp
end Go.Proofs.YtbnmhjobnepajaaGreat.M


namespace Go.Proofs.YtbnmhjobnepajaaGreat.M

theorem wrap8_id {x : Int} (h1 : 0 ≤ x) (h2 : x < 256) : IntKind.wrap .u8 x = x := by
  have : IntKind.wrap .u8 x = x % 256 := by simp [IntKind.wrap, IntKind.bits, IntKind.signed]
  rw [this]; omega

def dgt (n : Nat) : UInt8 := UInt8.ofNat (48 + n)

theorem dgt_nat {n : Nat} (h : n < 10) : (dgt n).toNat = 48 + n := by
  unfold dgt
  rw [UInt8.toNat_ofNat_of_lt' (by show 48 + n < 256; omega)]

def dig (n : Nat) : List UInt8 := if n < 10 then [dgt n] else dig (n / 10) ++ [dgt (n % 10)]
  termination_by n
  decreasing_by omega

theorem dig_small {n : Nat} (h : n < 10) : dig n = [dgt n] := by rw [dig, if_pos h]
theorem dig_big {n : Nat} (h : ¬ n < 10) : dig n = dig (n / 10) ++ [dgt (n % 10)] := by rw [dig, if_neg h]

theorem dig_len : ∀ (k n : Nat), n < 10 ^ (k + 1) → (dig n).length ≤ k + 1 := by
  intro k
  induction k with
  | zero => intro n h; rw [dig_small (by simpa using h)]; simp
  | succ k ih =>
    intro n h
    by_cases c : n < 10
    · rw [dig_small c]; simp
    · rw [dig_big c, List.length_append]
      have := ih (n / 10) (by rw [Nat.div_lt_iff_lt_mul (by decide)]; rw [Nat.pow_succ] at h; exact h)
      simp only [List.length_cons, List.length_nil]; omega

theorem dig_len13 {n : Nat} (h : n ≤ 1099511627776) : (dig n).length ≤ 13 := dig_len 12 n (by omega)

theorem dig_pos (n : Nat) : 0 < (dig n).length := by
  by_cases c : n < 10
  · rw [dig_small c]; simp
  · rw [dig_big c]; simp

theorem dig_all (n : Nat) : ∀ c ∈ dig n, 48 ≤ c.toNat ∧ c.toNat ≤ 57 := by
  induction n using Nat.strongRecOn with
  | ind n ih =>
    intro c hc
    by_cases h : n < 10
    · rw [dig_small h] at hc
      simp only [List.mem_cons, List.not_mem_nil, or_false] at hc
      subst hc; rw [dgt_nat h]; omega
    · rw [dig_big h, List.mem_append] at hc
      rcases hc with hc | hc
      · exact ih _ (by omega) c hc
      · simp only [List.mem_cons, List.not_mem_nil, or_false] at hc
        subst hc; rw [dgt_nat (by omega)]; omega

def valD (v : Nat) (s : List UInt8) : Nat := s.foldl (fun v c => v * 10 + (c.toNat - 48)) v

theorem valD_app (v : Nat) (s t : List UInt8) : valD v (s ++ t) = valD (valD v s) t := by unfold valD; rw [List.foldl_append]

theorem valD_cons (v : Nat) (c : UInt8) (r : List UInt8) : valD v (c :: r) = valD (v * 10 + (c.toNat - 48)) r := by unfold valD; rw [List.foldl_cons]

theorem valD_dig (n : Nat) : valD 0 (dig n) = n := by
  induction n using Nat.strongRecOn with
  | ind n ih =>
    by_cases h : n < 10
    · rw [dig_small h]; simp only [valD, List.foldl_cons, List.foldl_nil]; rw [dgt_nat h]; omega
    · rw [dig_big h, valD_app, ih _ (by omega)]
      simp only [valD, List.foldl_cons, List.foldl_nil]; rw [dgt_nat (by omega)]; omega

theorem dig_inj {m n : Nat} (h : dig m = dig n) : m = n := by rw [← valD_dig m, h, valD_dig]

theorem valD_mono (v : Nat) (s : List UInt8) : v ≤ valD v s := by
  induction s generalizing v with
  | nil => exact Nat.le_refl _
  | cons c r ih =>
    have := ih (v * 10 + (c.toNat - 48))
    simp only [valD, List.foldl_cons] at this ⊢
    omega

theorem okc_dig {c : UInt8} (h : 48 ≤ c.toNat ∧ c.toNat ≤ 57) : okc c = true := by
  unfold okc
  simp only [Bool.or_eq_true, Bool.and_eq_true, decide_eq_true_eq, beq_iff_eq]
  omega

end Go.Proofs.YtbnmhjobnepajaaGreat.M


namespace Go.Proofs.YtbnmhjobnepajaaGreat.M

theorem f151_loop : ∀ (k n : Nat) (x : Int), n + k = 8 → ∃ y, f151_l0 x (n : Int) = some (y, 8)
  | 0, n, x, h => by
    rw [f151_l0]
    have : n = 8 := by omega
    subst this
    exact ⟨x, by simp⟩
  | k + 1, n, x, h => by
    rw [f151_l0]
    have hw : IntKind.wrap .i64 ((n : Int) + 1) = ((n + 1 : Nat) : Int) := by rw [wrap_id (by omega) (by omega)]; omega
    have h1 : ((n : Int) < 8) := by omega
    rw [hw]
    simp only [h1, decide_true, if_true]
    split
    · exact f151_loop k (n + 1) _ (by omega)
    · exact f151_loop k (n + 1) _ (by omega)

theorem f151_some (a b : Int) : ∃ y, f151 a b = some y := by
  unfold f151
  obtain ⟨y, h⟩ := f151_loop 8 0 (IntKind.wrap .u32 ((BitVec.ofInt (IntKind.bits .u32) a ^^^ BitVec.ofInt (IntKind.bits .u32) (IntKind.wrap .u32 (b))).toNat)) (by omega)
  rw [show (((0 : Nat) : Int)) = (0 : Int) from rfl] at h
  exact ⟨y, by rw [h]; rfl⟩

theorem f138_loop (s : List UInt8) (hs : s.length < 9223372036854775808) : ∀ (k n : Nat) (x : Int), n + k = s.length → ∃ y, f138_l0 s x (n : Int) = some y
  | 0, n, x, h => by
    rw [f138_l0]
    have : n = s.length := by omega
    subst this
    exact ⟨_, by simp; rfl⟩
  | k + 1, n, x, h => by
    rw [f138_l0]
    have hn : n < s.length := by omega
    have hw : IntKind.wrap .i64 ((n : Int) + 1) = ((n + 1 : Nat) : Int) := by rw [wrap_id (by omega) (by omega)]; omega
    have h1 : ((n : Int) < (s.length : Int)) := by omega
    have h0 : (0 : Int) ≤ (n : Int) := by omega
    obtain ⟨z, hz⟩ := f151_some x (btS s (n : Int))
    obtain ⟨y, ih⟩ := f138_loop s hs k (n + 1) z (by omega)
    refine ⟨y, ?_⟩
    simp only [h1, h0, decide_true, if_true, and_self, hz, Option.bind_eq_bind, Option.bind_some, hw, ih]

def crc (s : List UInt8) : Int := (f111 s).getD 0

theorem f111_eq {s : List UInt8} (hs : s.length < 9223372036854775808) : f111 s = some (crc s) := by
  have : ∃ y, f111 s = some y := by
    unfold f111 f138
    obtain ⟨y, h⟩ := f138_loop s hs s.length 0 (IntKind.wrap .u32 ((BitVec.ofInt (IntKind.bits .u32) (if IntKind.signed .u32 = true then -1 else IntKind.max .u32) ^^^ BitVec.ofInt (IntKind.bits .u32) 0).toNat)) (by omega)
    rw [show (((0 : Nat) : Int)) = (0 : Int) from rfl] at h
    exact ⟨_, by rw [h]; rfl⟩
  obtain ⟨y, h⟩ := this
  unfold crc
  rw [h]; rfl

def sum4 (s : List UInt8) : List UInt8 := bytesS [IntKind.wrap .u8 (crc s), IntKind.wrap .u8 (Int.fdiv (crc s) (2 ^ 8)), IntKind.wrap .u8 (Int.fdiv (crc s) (2 ^ 16)), IntKind.wrap .u8 (Int.fdiv (crc s) (2 ^ 24))]
def sealS (s : List UInt8) : List UInt8 := s ++ sum4 s
def openS (s : List UInt8) : Option (List UInt8) := if 4 ≤ s.length ∧ sum4 (s.take (s.length - 4)) = s.drop (s.length - 4) then some (s.take (s.length - 4)) else none

theorem sum4_len (s : List UInt8) : (sum4 s).length = 4 := by simp [sum4, bytesS]
theorem sealS_len (s : List UInt8) : (sealS s).length = s.length + 4 := by unfold sealS; rw [List.length_append, sum4_len]

theorem openS_seal (s : List UInt8) : openS (sealS s) = some s := by
  unfold openS
  have hl := sealS_len s
  have e1 : (sealS s).length - 4 = s.length := by omega
  have e2 : (sealS s).take s.length = s := by unfold sealS; simp
  have e3 : (sealS s).drop s.length = sum4 s := by unfold sealS; simp
  rw [e1, e2, e3, if_pos ⟨by omega, rfl⟩]

theorem f89_eq {s : List UInt8} (hs : s.length + 4 < 9223372036854775808) : f89 s = some (sealS s) := by
  unfold f89
  have hl := sum4_len s
  simp only [f111_eq (s := s) (by omega), f110_crc, Option.bind_eq_bind, Option.bind_some]
  rw [if_pos (by omega)]
  rfl

theorem f108_eq {s : List UInt8} (hs : s.length < 9223372036854775808) : (∃ t, openS s = some t ∧ f108 s = some (t, 0)) ∨ (openS s = none ∧ ∃ e : Int, e ≠ 0 ∧ f108 s = some ([], e)) := by
  unfold f108
  have hw : IntKind.wrap .i64 ((s.length : Int) - 4) = (s.length : Int) - 4 := wrap_id (by omega) (by omega)
  rw [hw]
  by_cases c : s.length < 4
  · refine .inr ⟨?_, 5, by decide, by rw [if_pos (by simp; omega)]⟩
    unfold openS
    rw [if_neg (by omega)]
  have e1 : Int.toNat ((s.length : Int) - 4) = s.length - 4 := by omega
  have hg : (0 : Int) ≤ (s.length : Int) - 4 ∧ (s.length : Int) - 4 ≤ (s.length : Int) := by omega
  have hl : (s.take (s.length - 4)).length < 9223372036854775808 := by rw [List.length_take]; omega
  rw [if_neg (by simp; omega), if_pos hg]
  simp only [e1, f111_eq hl, f110_crc, Option.bind_eq_bind, Option.bind_some]
  rw [if_pos hg, if_pos hg]
  unfold openS
  by_cases c2 : sum4 (s.take (s.length - 4)) = s.drop (s.length - 4)
  · refine .inl ⟨s.take (s.length - 4), ?_, ?_⟩
    · rw [if_pos ⟨by omega, c2⟩]
    · rw [if_neg (by simp [c2])]
  · refine .inr ⟨?_, 7, by decide, ?_⟩
    · rw [if_neg (fun h => c2 h.2)]
    · rw [if_pos (by simpa using c2)]

end Go.Proofs.YtbnmhjobnepajaaGreat.M


namespace Go.Proofs.YtbnmhjobnepajaaGreat.M

theorem f116_eq : ∀ (n : Nat), n < 9223372036854775808 → f_wal_digits (n : Int) = some (dig n) := by
  intro n
  induction n using Nat.strongRecOn with
  | ind n ih =>
    intro hn
    rw [f_wal_digits]
    by_cases h : n < 10
    · have h1 : ((n : Int) < 10) := by omega
      rw [if_pos (by simpa using h1), dig_small h, wrap_id (by omega) (by omega), wrap8_id (by omega) (by omega)]
      simp only [bytesS, List.map_cons, List.map_nil, dgt]
      congr 3
    · have h1 : ¬ ((n : Int) < 10) := by omega
      rw [if_neg (by simpa using h1)]
      have e1 : Int.tdiv (n : Int) 10 = ((n / 10 : Nat) : Int) := by
        rw [Int.tdiv_eq_ediv_of_nonneg (by omega)]; omega
      have e2 : Int.tmod (n : Int) 10 = ((n % 10 : Nat) : Int) := by
        rw [Int.tmod_eq_emod_of_nonneg (by omega)]; omega
      rw [e1, e2, wrap_id (x := ((n / 10 : Nat) : Int)) (by omega) (by omega), ih _ (by omega) (by omega), wrap_id (by omega) (by omega), wrap8_id (by omega) (by omega)]
      have e3 : bytesS [(48 + ((n % 10 : Nat) : Int))] = [dgt (n % 10)] := by
        simp only [bytesS, List.map_cons, List.map_nil, dgt]
        congr 2
      have hl := dig_len 18 (n / 10) (by omega)
      simp only [Option.bind_eq_bind, Option.bind_some, e3]
      rw [if_pos (by simp only [List.length_cons, List.length_nil]; omega), dig_big h]

theorem f140_loop (s : List UInt8) (hs : s.length < 9223372036854775808) : ∀ (k n : Nat) (v : Nat), n + k = s.length → v ≤ 1099511627776 → (∀ c ∈ s.drop n, 48 ≤ c.toNat ∧ c.toNat ≤ 57) → valD v (s.drop n) ≤ 1099511627776 →
    f140_l0 s (v : Int) (n : Int) = some (.inl (((valD v (s.drop n) : Nat) : Int), (s.length : Int)))
  | 0, n, v, h, hv, hc, hw => by
    rw [f140_l0]
    have : n = s.length := by omega
    subst this
    simp [valD]
  | k + 1, n, v, h, hv, hc, hw => by
    rw [f140_l0]
    have hn : n < s.length := by omega
    have hw1 : IntKind.wrap .i64 ((n : Int) + 1) = ((n + 1 : Nat) : Int) := by rw [wrap_id (by omega) (by omega)]; omega
    have hd : s.drop n = s[n] :: s.drop (n + 1) := by simp
    have h1 : ((n : Int) < (s.length : Int)) := by omega
    have h0 : (0 : Int) ≤ (n : Int) := by omega
    rw [hd] at hc hw
    have hc1 := hc _ List.mem_cons_self
    rw [valD_cons] at hw
    have hm := valD_mono (v * 10 + (s[n].toNat - 48)) (s.drop (n + 1))
    rw [btS_at hn, hw1, hd]
    simp only [h1, h0, decide_true, if_true, and_self]
    rw [if_neg (by simp; omega), if_neg (by simp; omega)]
    have e1 : IntKind.wrap .i64 (IntKind.wrap .i64 ((v : Int) * 10) + IntKind.wrap .i64 (IntKind.wrap .u8 ((s[n].toNat : Int) - 48))) = ((v * 10 + (s[n].toNat - 48) : Nat) : Int) := by
      rw [wrap8_id (by omega) (by omega), wrap_id (x := (s[n].toNat : Int) - 48) (by omega) (by omega), wrap_id (x := (v : Int) * 10) (by omega) (by omega), wrap_id (by omega) (by omega)]
      omega
    rw [e1, f140_loop s hs k (n + 1) (v * 10 + (s[n].toNat - 48)) (by omega) (by omega) (fun c hc2 => hc c (List.mem_cons_of_mem _ hc2)) hw, valD_cons]

theorem dig_head {n : Nat} (hn : 0 < n) : ∃ c r, dig n = c :: r ∧ c.toNat ≠ 48 := by
  induction n using Nat.strongRecOn with
  | ind n ih =>
    by_cases h : n < 10
    · exact ⟨dgt n, [], dig_small h, by rw [dgt_nat h]; omega⟩
    · obtain ⟨c, r, h1, h2⟩ := ih (n / 10) (by omega) (by omega)
      exact ⟨c, r ++ [dgt (n % 10)], by rw [dig_big h, h1]; rfl, h2⟩

theorem f140_dig {n : Nat} (hn : n ≤ 1099511627776) : f140 (dig n) = some (n : Int) := by
  have hl := dig_len13 hn
  have hp := dig_pos n
  have h0 := f140_loop (dig n) (by omega) (dig n).length 0 0 (by omega) (by omega) (by rw [List.drop_zero]; exact dig_all n) (by rw [List.drop_zero, valD_dig]; exact hn)
  rw [show (((0 : Nat) : Int)) = (0 : Int) from rfl, List.drop_zero, valD_dig] at h0
  unfold f140
  rw [h0]
  simp only [Option.bind_eq_bind, Option.bind_some]
  have hne : dig n ≠ [] := fun e => by rw [e] at hp; simp at hp
  rw [if_neg (by simpa using hne), if_pos (by omega)]
  rw [if_neg]
  simp only [Bool.or_eq_true, Bool.and_eq_true, not_or, not_and]
  refine ⟨fun h1 => ?_, by simp; omega⟩
  by_cases c : n = 0
  · subst c
    rw [dig_small (by decide)]
    decide
  · obtain ⟨c, r, h2, h3⟩ := dig_head (n := n) (by omega)
    rw [h2] at h1
    have : btS (c :: r) 0 = (c.toNat : Int) := by
      have := btS_at (s := c :: r) (n := 0) (by simp)
      simpa using this
    rw [this] at h1
    simp at h1
    omega

abbrev nmL : List UInt8 := [99, 109, 100, 115]
theorem f95_log : f95 nmL = some true := by
  unfold f95
  rw [f95_l0, f95_l0, f95_l0, f95_l0, f95_l0]
  rfl

def fileL (n : Nat) : List UInt8 := [99, 109, 100, 115, 46] ++ dig n
theorem fileL_inj {m n : Nat} (h : fileL m = fileL n) : m = n := dig_inj (List.append_cancel_left h)
theorem fileL_len {n : Nat} (h : n ≤ 1099511627776) : (fileL n).length ≤ 18 := by
  have := dig_len13 h
  unfold fileL
  rw [List.length_append]; simp only [List.length_cons, List.length_nil]; omega
theorem okName_fileL {n : Nat} (h : n ≤ 1099511627776) : okName (fileL n) = true := by
  have hl := fileL_len h
  unfold okName
  have h1 : (fileL n).all okc = true := by
    unfold fileL
    rw [List.all_append, Bool.and_eq_true]
    refine ⟨by decide, List.all_eq_true.2 (fun c hc => okc_dig (dig_all n c hc))⟩
  have h2 : 0 < (fileL n).length := by unfold fileL; rw [List.length_append]; simp only [List.length_cons]; omega
  rw [h1]
  simp only [Bool.true_and, Bool.and_eq_true, decide_eq_true_eq]
  omega

def recT (n : Nat) (x : List UInt8) : List UInt8 := sealS (numV n ++ x)
def recB (n : Nat) (x : List UInt8) : List UInt8 := numV (recT n x).length ++ recT n x

abbrev OkR (x : List UInt8) : Prop := x.length ≤ 1024
abbrev OkN (n : Nat) : Prop := n < 4611686018427387904

theorem recT_len {n : Nat} {x : List UInt8} (hn : OkN n) (hx : OkR x) : (recT n x).length ≤ 1038 := by
  have := numV_len (n := n) (by unfold OkN at hn; omega)
  unfold recT
  rw [sealS_len, List.length_append]
  unfold OkR at hx; omega

theorem recB_len {n : Nat} {x : List UInt8} (hn : OkN n) (hx : OkR x) : (recB n x).length ≤ 1048 := by
  have h1 := recT_len hn hx
  have := numV_len (n := (recT n x).length) (by omega)
  unfold recB
  rw [List.length_append]; omega

theorem numV_pos (n : Nat) : 0 < (numV n).length := by
  unfold numV bytesS; rw [List.length_map]; exact vbI_pos _

theorem recB_pos (n : Nat) (x : List UInt8) : 0 < (recB n x).length := by
  have := numV_pos (recT n x).length
  unfold recB; rw [List.length_append]; omega

theorem f99_eq {n : Nat} {x : List UInt8} (hn : OkN n) (hx : OkR x) : f99 (n : Int) x = some (recB n x) := by
  unfold OkN at hn
  have h0 := numV_len (n := n) (by omega)
  have h1 := recT_len hn hx
  have h2 := numV_len (n := (recT n x).length) (by omega)
  unfold OkR at hx
  unfold f99
  rw [f90_numV (by omega)]
  simp only [Option.bind_eq_bind, Option.bind_some]
  rw [if_pos (by omega), f89_eq (by rw [List.length_append]; omega)]
  have e : sealS (numV n ++ x) = recT n x := rfl
  rw [e]
  simp only [Option.bind_some]
  rw [f90_numV (by omega)]
  simp only [Option.bind_some]
  rw [if_pos (by omega)]
  rfl

theorem f94_there {s rest x : List UInt8} {p n : Nat} (hs : s.length < 4611686018427387904) (hp : p ≤ s.length) (hn : OkN n) (hx : OkR x) (hd : s.drop p = recB n x ++ rest) :
    f94 s (p : Int) (n : Int) = some (x, ((p + (recB n x).length : Nat) : Int), true) := by
  unfold OkN at hn
  have hT := recT_len hn hx
  have hlen : p + (recB n x).length + rest.length = s.length := by
    have := congrArg List.length hd
    rw [List.length_drop, List.length_append] at this; omega
  have hB : (recB n x).length = (numV (recT n x).length).length + (recT n x).length := by unfold recB; rw [List.length_append]
  have hd2 : s.drop p = numV (recT n x).length ++ (recT n x ++ rest) := by rw [hd]; unfold recB; rw [List.append_assoc]
  unfold f94
  rw [f113_num (k := (recT n x).length) (by omega) (by omega) hp hd2]
  simp only [Option.bind_eq_bind, Option.bind_some]
  have hw1 : IntKind.wrap .i64 ((s.length : Int) - ((p + (numV (recT n x).length).length : Nat) : Int)) = (s.length : Int) - ((p + (numV (recT n x).length).length : Nat) : Int) := wrap_id (by omega) (by omega)
  have hw2 : IntKind.wrap .i64 (((p + (numV (recT n x).length).length : Nat) : Int) + ((recT n x).length : Int)) = ((p + (recB n x).length : Nat) : Int) := by rw [wrap_id (by omega) (by omega)]; omega
  rw [hw1, hw2, if_neg (by simp; omega), if_pos (by omega)]
  have hi1 : Int.toNat ((p + (recB n x).length : Nat) : Int) = p + (recB n x).length := by omega
  have hi2 : Int.toNat ((p + (numV (recT n x).length).length : Nat) : Int) = p + (numV (recT n x).length).length := by omega
  have hsub : (s.take (p + (recB n x).length)).drop (p + (numV (recT n x).length).length) = recT n x := by
    rw [List.drop_take, ← List.drop_drop, hd2]
    have : p + (recB n x).length - (p + (numV (recT n x).length).length) = (recT n x).length := by omega
    rw [this, List.drop_left, List.take_left]
  rw [hi1, hi2, hsub]
  rcases f108_eq (s := recT n x) (by omega) with ⟨t, h1, h2⟩ | ⟨h1, _⟩
  · have e : openS (recT n x) = some (numV n ++ x) := openS_seal _
    rw [e] at h1
    simp only [Option.some.injEq] at h1
    subst h1
    rw [h2, f90_numV (by omega)]
    have hnl := numV_len (n := n) (by omega)
    unfold OkR at hx
    simp only [Option.bind_some]
    have hi3 : Int.toNat (((numV n).length : Nat) : Int) = (numV n).length := by omega
    have hw3 : IntKind.wrap .i64 (((numV n ++ x).length : Int) - ((numV n).length : Int)) = (x.length : Int) := by
      rw [List.length_append, wrap_id (by omega) (by omega)]; omega
    have hg : (0 : Int) ≤ ((numV n).length : Int) ∧ ((numV n).length : Int) ≤ ((numV n ++ x).length : Int) := by rw [List.length_append]; omega
    rw [if_neg (by simp), if_neg (by simp; omega), if_pos hg, hi3, hw3, if_neg (by simp; omega), if_pos hg]
    simp
  · have e : openS (recT n x) = some (numV n ++ x) := openS_seal _
    rw [e] at h1; cases h1

theorem f94_torn {s t x : List UInt8} {p n : Nat} (hs : s.length < 4611686018427387904) (hp : p ≤ s.length) (hn : OkN n) (hx : OkR x) (hd : s.drop p = t) (ht : t <+: recB n x) (hl : t.length < (recB n x).length) :
    f94 s (p : Int) (n : Int) = some ([], 0, false) := by
  have hT := recT_len hn hx
  have hlen : p + t.length = s.length := by
    have := congrArg List.length hd
    rw [List.length_drop] at this; omega
  have hB : (recB n x).length = (numV (recT n x).length).length + (recT n x).length := by unfold recB; rw [List.length_append]
  unfold f94
  by_cases c : t.length < (numV (recT n x).length).length
  · rw [f113_torn (k := (recT n x).length) (by omega) (by omega) hp hd (List.prefix_of_prefix_length_le ht (by unfold recB; exact List.prefix_append _ _) (by omega)) c]
    rfl
  · have h2 : numV (recT n x).length <+: t := List.prefix_of_prefix_length_le (by unfold recB; exact List.prefix_append _ _) ht (by omega)
    obtain ⟨r, hr⟩ := h2
    rw [f113_num (k := (recT n x).length) (rest := r) (by omega) (by omega) hp (by rw [hd, hr])]
    simp only [Option.bind_eq_bind, Option.bind_some]
    have hw1 : IntKind.wrap .i64 ((s.length : Int) - ((p + (numV (recT n x).length).length : Nat) : Int)) = (s.length : Int) - ((p + (numV (recT n x).length).length : Nat) : Int) := wrap_id (by omega) (by omega)
    rw [hw1, if_pos (by simp; right; omega)]

def segB : Nat → List (List UInt8) → List UInt8
  | _, [] => []
  | n, x :: r => recB n x ++ segB (n + 1) r

theorem segB_app : ∀ (n : Nat) (l l' : List (List UInt8)), segB n (l ++ l') = segB n l ++ segB (n + l.length) l'
  | n, [], l' => by simp [segB]
  | n, x :: r, l' => by
    have := segB_app (n + 1) r l'
    simp only [List.cons_append, segB, this, List.append_assoc, List.length_cons]
    have e : n + 1 + r.length = n + (r.length + 1) := by omega
    rw [e]

theorem segB_len : ∀ (n : Nat) (l : List (List UInt8)), OkN (n + l.length) → (∀ x ∈ l, OkR x) → (segB n l).length ≤ l.length * 1048
  | n, [], _, _ => by simp [segB]
  | n, x :: r, hn, hx => by
    have hn' : n + (r.length + 1) < 4611686018427387904 := hn
    have h1 := recB_len (n := n) (x := x) (by unfold OkN; omega) (hx x List.mem_cons_self)
    have h2 := segB_len (n + 1) r (by unfold OkN; omega) (fun y hy => hx y (List.mem_cons_of_mem _ hy))
    simp only [segB, List.length_append, List.length_cons]
    omega

def Torn (n : Nat) (t : List UInt8) : Prop := ∃ x, OkR x ∧ t <+: recB n x ∧ t.length < (recB n x).length

theorem Torn.nil (n : Nat) : Torn n [] := ⟨[], by decide, List.nil_prefix, recB_pos n []⟩

theorem f49_loop (s : List UInt8) (f : Nat) (hs : s.length < 1099511627776) (t : List UInt8) : ∀ (rem pre : List (List UInt8)), s = segB f pre ++ (segB (f + pre.length) rem ++ t) → OkN (f + pre.length + rem.length) → (∀ x ∈ rem, OkR x) → Torn (f + pre.length + rem.length) t → pre.length ≤ s.length →
    f49_l0 s (f : Int) pre (((segB f pre).length : Nat) : Int) = some (pre ++ rem, ((segB f (pre ++ rem)).length : Int))
  | [], pre, hse, hn, hx, ⟨y, hy, ht, htl⟩, hpl => by
    rw [f49_l0]
    simp only [List.length_nil, Nat.add_zero] at hn ht htl
    have hn' : f + pre.length < 4611686018427387904 := hn
    have hl : (segB f pre).length ≤ s.length := by rw [hse]; simp
    have hd : s.drop (segB f pre).length = t := by rw [hse]; simp [segB]
    have hw : IntKind.wrap .i64 ((f : Int) + (pre.length : Int)) = ((f + pre.length : Nat) : Int) := by rw [wrap_id (by omega) (by omega)]; omega
    rw [if_pos (by simp), hw, f94_torn (by omega) hl hn hy hd ht htl]
    simp
  | x :: rem, pre, hse, hn, hx, ht, hpl => by
    rw [f49_l0]
    have hn' : f + pre.length + (rem.length + 1) < 4611686018427387904 := hn
    have hxx := hx x List.mem_cons_self
    have hl : (segB f pre).length ≤ s.length := by rw [hse]; simp
    have hd : s.drop (segB f pre).length = recB (f + pre.length) x ++ (segB (f + pre.length + 1) rem ++ t) := by rw [hse]; simp [segB]
    have hw : IntKind.wrap .i64 ((f : Int) + (pre.length : Int)) = ((f + pre.length : Nat) : Int) := by rw [wrap_id (by omega) (by omega)]; omega
    have hpos := recB_pos (f + pre.length) x
    have hgr : (segB f pre).length + (recB (f + pre.length) x).length ≤ s.length := by
      have := congrArg List.length hd
      rw [List.length_drop, List.length_append] at this; omega
    rw [if_pos (by simp), hw, f94_there (by omega) hl (by unfold OkN; omega) hxx hd]
    simp only [Option.bind_eq_bind, Option.bind_some, Bool.not_true, Bool.false_eq_true, if_false]
    rw [if_pos (by omega)]
    have hlen1 : (pre ++ [x]).length = pre.length + 1 := by simp
    have hseg : segB f (pre ++ [x]) = segB f pre ++ recB (f + pre.length) x := by rw [segB_app]; simp [segB]
    have hpl2 : ∀ (n : Nat) (l : List (List UInt8)), l.length ≤ (segB n l).length := by
      intro n l
      induction l generalizing n with
      | nil => simp
      | cons a r ih =>
        have := ih (n + 1)
        have := recB_pos n a
        simp only [segB, List.length_append, List.length_cons]; omega
    have ht2 : Torn (f + (pre ++ [x]).length + rem.length) t := by
      have e : f + (pre ++ [x]).length + rem.length = f + pre.length + (x :: rem).length := by simp only [List.length_append, List.length_cons, List.length_nil]; omega
      rw [e]; exact ht
    have hs2 : s = segB f (pre ++ [x]) ++ (segB (f + (pre ++ [x]).length) rem ++ t) := by
      rw [hse, hseg, hlen1]
      simp only [segB, List.append_assoc]
      rfl
    have := f49_loop s f hs t rem (pre ++ [x]) hs2 (by rw [hlen1]; unfold OkN; omega) (fun y hy => hx y (List.mem_cons_of_mem _ hy)) ht2 (by have h5 := hpl2 f (pre ++ [x]); rw [hseg] at h5; have h6 : (segB f pre ++ recB (f + pre.length) x).length = (segB f pre).length + (recB (f + pre.length) x).length := List.length_append; omega)
    have e1 : ((segB f (pre ++ [x])).length : Int) = (((segB f pre).length + (recB (f + pre.length) x).length : Nat) : Int) := by rw [hseg, List.length_append]
    rw [e1] at this
    rw [this]
    simp

theorem f49_eq {s t : List UInt8} {f : Nat} {recs : List (List UInt8)} (hs : s.length < 1099511627776) (hse : s = segB f recs ++ t) (hn : OkN (f + recs.length)) (hx : ∀ x ∈ recs, OkR x) (ht : Torn (f + recs.length) t) :
    f49 s (f : Int) = some (recs, ((segB f recs).length : Int)) := by
  unfold f49
  have := f49_loop s f hs t recs [] (by simpa [segB] using hse) (by simpa using hn) hx (by simpa using ht) (by simp)
  simp only [segB, List.length_nil, List.nil_append] at this
  rw [show (((0 : Nat) : Int)) = (0 : Int) from rfl] at this
  rw [this]
  rfl

theorem segB_take : ∀ (n : Nat) (l : List (List UInt8)) (j : Nat), (∀ x ∈ l, OkR x) → ∃ m t, m ≤ l.length ∧ (segB n l).take j = segB n (l.take m) ++ t ∧ Torn (n + m) t
  | n, [], j, _ => ⟨0, [], Nat.le_refl _, by simp [segB], Torn.nil _⟩
  | n, x :: r, j, hx => by
    by_cases c : j < (recB n x).length
    · refine ⟨0, (recB n x).take j, Nat.zero_le _, ?_, x, hx x List.mem_cons_self, List.take_prefix _ _, ?_⟩
      · simp only [segB, List.take_zero, List.nil_append]
        rw [List.take_append_of_le_length (by omega)]
      · rw [List.length_take, Nat.add_zero]; omega
    · obtain ⟨m, t, h1, h2, h3⟩ := segB_take (n + 1) r (j - (recB n x).length) (fun y hy => hx y (List.mem_cons_of_mem _ hy))
      have e : n + (m + 1) = n + 1 + m := by omega
      refine ⟨m + 1, t, by simp only [List.length_cons]; omega, ?_, by rw [e]; exact h3⟩
      simp only [segB, List.take_succ_cons]
      rw [List.take_append, List.take_of_length_le (l := recB n x) (by omega), h2, List.append_assoc]
end Go.Proofs.YtbnmhjobnepajaaGreat.M


namespace Go.Proofs.YtbnmhjobnepajaaGreat.M

abbrev FR : Type := List UInt8 × List UInt8 × List UInt8 × Unit
abbrev AD : Type := Int × List FR × Int × Bool × Unit
theorem ltr {a b c : List UInt8} (h1 : a < b) (h2 : b < c) : a < c := List.lt_trans h1 h2
theorem lirr (a : List UInt8) : ¬ a < a := List.lt_irrefl a
theorem lne {a b : List UInt8} (h : a < b) : a ≠ b := fun e => lirr b (e ▸ h)
theorem ltri {a b : List UInt8} (h1 : ¬ a < b) (h2 : a ≠ b) : b < a := by
  have h : b ≤ a := List.not_lt.1 h1
  rcases List.le_iff_lt_or_eq.1 h with h | h
  · exact h
  · exact absurd h.symm h2

def fsize (f : FR) : Nat := f.2.1.length + f.2.2.1.length
def usedL : List FR → Nat
  | [] => 0
  | f :: r => fsize f + usedL r
def findL (s : List UInt8) : List FR → Option FR
  | [] => none
  | f :: r => cond (f.1 == s) (some f) (findL s r)
def setL (f : FR) : Bool → List FR → List FR
  | done, [] => cond done [] [f]
  | done, g :: r => (cond (!done && !decide (g.1 < f.1)) [f] []) ++ ((cond (g.1 == f.1) [] [g]) ++ setL f (done || !decide (g.1 < f.1)) r)
def dropL (s : List UInt8) : List FR → List FR
  | [] => []
  | f :: r => (cond (f.1 == s) [] [f]) ++ dropL s r

theorem usedL_append (l l' : List FR) : usedL (l ++ l') = usedL l + usedL l' := by
  induction l with
  | nil => simp [usedL]
  | cons f r ih => simp only [List.cons_append, usedL, ih]; omega

theorem usedL_perm {l l' : List FR} (h : l.Perm l') : usedL l = usedL l' := by
  induction h with
  | nil => rfl
  | cons f _ ih => simp [usedL, ih]
  | swap f g r => simp only [usedL]; omega
  | trans _ _ h1 h2 => rw [h1, h2]

theorem dropL_eq (s : List UInt8) (L : List FR) : dropL s L = L.filter (fun g => !(g.1 == s)) := by
  induction L with
  | nil => rfl
  | cons f r ih =>
    cases h : (f.1 == s)
    · rw [List.filter_cons_of_pos (by simp [h])]; simp [dropL, h, ih]
    · rw [List.filter_cons_of_neg (by simp [h])]; simp [dropL, h, ih]

theorem setL_true (f : FR) (L : List FR) : setL f true L = dropL f.1 L := by
  induction L with
  | nil => rfl
  | cons g r ih => simp [setL, dropL, ih]

theorem setL_perm (f : FR) (L : List FR) : (setL f false L).Perm (f :: dropL f.1 L) := by
  induction L with
  | nil => exact List.Perm.refl _
  | cons g r ih =>
    simp only [setL, dropL]
    by_cases h : g.1 < f.1
    · have hb : (g.1 == f.1) = false := by simpa using lne h
      simp only [h, decide_true, Bool.not_true, Bool.and_false, cond_false, hb, Bool.or_self, List.nil_append, List.singleton_append]
      exact (List.Perm.cons g ih).trans (List.Perm.swap f g _)
    · simp only [h, decide_false, Bool.not_false, Bool.and_self, cond_true, Bool.or_true, setL_true, List.singleton_append]
      exact List.Perm.refl _

theorem mem_dropL {s : List UInt8} {L : List FR} {g : FR} : g ∈ dropL s L ↔ g ∈ L ∧ g.1 ≠ s := by
  rw [dropL_eq, List.mem_filter]; simp

theorem mem_setL {f : FR} {L : List FR} {g : FR} : g ∈ setL f false L ↔ g = f ∨ (g ∈ L ∧ g.1 ≠ f.1) := by
  rw [(setL_perm f L).mem_iff, List.mem_cons, mem_dropL]

abbrev SortL (L : List FR) : Prop := L.Pairwise (fun f g => f.1 < g.1)

theorem SortL.drop {L : List FR} (h : SortL L) (s : List UInt8) : SortL (dropL s L) := by
  rw [dropL_eq]; exact h.filter _

theorem SortL.set {f : FR} {L : List FR} (h : SortL L) : SortL (setL f false L) := by
  induction L with
  | nil => simp [setL, SortL]
  | cons g r ih =>
    have hr := List.pairwise_cons.1 h
    simp only [setL]
    by_cases hg : g.1 < f.1
    · have hb : (g.1 == f.1) = false := by simpa using lne hg
      simp only [hg, decide_true, Bool.not_true, Bool.and_false, cond_false, hb, Bool.or_self, List.nil_append, List.singleton_append]
      refine List.pairwise_cons.2 ⟨fun x hx => ?_, ih hr.2⟩
      rcases mem_setL.1 hx with rfl | ⟨hx, _⟩
      · exact hg
      · exact hr.1 x hx
    · simp only [hg, decide_false, Bool.not_false, Bool.and_self, cond_true, Bool.or_true, setL_true, List.singleton_append]
      have hd : SortL (cond (g.1 == f.1) [] [g] ++ dropL f.1 r) := h.drop f.1
      refine List.pairwise_cons.2 ⟨fun x hx => ?_, hd⟩
      have hx' : x ∈ dropL f.1 (g :: r) := hx
      obtain ⟨hx1, hx2⟩ := mem_dropL.1 hx'
      rcases List.mem_cons.1 hx1 with rfl | hx1
      · exact ltri hg hx2
      · by_cases he : g.1 = f.1
        · rw [← he]; exact hr.1 x hx1
        · exact ltr (ltri hg he) (hr.1 x hx1)

theorem findL_some {s : List UInt8} {L : List FR} {f : FR} (h : findL s L = some f) : f ∈ L ∧ f.1 = s := by
  induction L with
  | nil => simp [findL] at h
  | cons g r ih =>
    simp only [findL] at h
    cases hg : (g.1 == s)
    · rw [hg] at h; obtain ⟨h1, h2⟩ := ih h; exact ⟨List.mem_cons_of_mem _ h1, h2⟩
    · rw [hg] at h; simp only [cond_true, Option.some.injEq] at h; subst h; exact ⟨List.mem_cons_self, by simpa using hg⟩

theorem findL_none {s : List UInt8} {L : List FR} (h : findL s L = none) : ∀ f ∈ L, f.1 ≠ s := by
  induction L with
  | nil => simp
  | cons g r ih =>
    simp only [findL] at h
    cases hg : (g.1 == s)
    · rw [hg] at h
      intro f hf
      rcases List.mem_cons.1 hf with rfl | hf
      · simpa using hg
      · exact ih h f hf
    · rw [hg] at h; simp at h

theorem findL_of {s : List UInt8} {L : List FR} (hs : SortL L) {f : FR} (h1 : f ∈ L) (h2 : f.1 = s) : findL s L = some f := by
  induction L with
  | nil => simp at h1
  | cons g r ih =>
    have hr := List.pairwise_cons.1 hs
    simp only [findL]
    rcases List.mem_cons.1 h1 with rfl | h1
    · simp [h2]
    · have : (g.1 == s) = false := by
        have := lne (hr.1 f h1); rw [h2] at this; simpa using this
      rw [this]; exact ih hr.2 h1

theorem findL_no {s : List UInt8} {L : List FR} (h : ∀ f ∈ L, f.1 ≠ s) : findL s L = none := by
  cases hf : findL s L with
  | none => rfl
  | some f => obtain ⟨h1, h2⟩ := findL_some hf; exact absurd h2 (h f h1)

theorem dropL_none {s : List UInt8} {L : List FR} (h : findL s L = none) : dropL s L = L := by
  rw [dropL_eq, List.filter_eq_self]
  intro f hf
  simpa using findL_none h f hf

theorem dropL_perm {s : List UInt8} {L : List FR} (hs : SortL L) {f : FR} (h : findL s L = some f) : L.Perm (f :: dropL s L) := by
  induction L with
  | nil => simp [findL] at h
  | cons g r ih =>
    have hr := List.pairwise_cons.1 hs
    simp only [findL] at h
    cases hg : (g.1 == s)
    · rw [hg] at h
      simp only [dropL, hg, cond_false, List.singleton_append]
      exact (List.Perm.cons g (ih hr.2 h)).trans (List.Perm.swap f g _)
    · rw [hg] at h; simp only [cond_true, Option.some.injEq] at h; subst h
      simp only [dropL, hg, cond_true, List.nil_append]
      have : dropL s r = r := by
        rw [dropL_eq, List.filter_eq_self]
        intro x hx
        have h1 := lne (hr.1 x hx)
        have h2 : g.1 = s := by simpa using hg
        rw [h2] at h1
        simpa using fun e => h1 e.symm
      rw [this]

def keepN (keep : List Int) (n : Nat) : Nat := match keep with
  | [] => 0
  | x :: _ => (if 0 < x then Int.tmod x (n + 1) else 0).toNat

def crashL : List FR → List Int → List FR
  | [], _ => []
  | f :: r, keep => cond f.2.2.1.isEmpty ((f.1, f.2.1, [], ()) :: crashL r keep) ((f.1, f.2.1 ++ f.2.2.1.take (keepN keep f.2.2.1.length), [], ()) :: crashL r keep.tail)

theorem keepN_le (keep : List Int) (n : Nat) : keepN keep n ≤ n := by
  cases keep with
  | nil => simp [keepN]
  | cons x r =>
    simp only [keepN]
    split
    · have := Int.tmod_lt_of_pos x (b := (n : Int) + 1) (by omega)
      omega
    · simp

def putA (A : AD) (L : List FR) : AD := (A.1, L, A.2.2.1, A.2.2.2.1, ())
def goesA (A : AD) : Bool × AD := if A.2.2.1 = 0 then (false, A) else (A.2.2.1 == 1, (A.1, A.2.1, A.2.2.1 - 1, A.2.2.1 == 1, ()))
def writeA (A : AD) (k : AD → AD) : Int × AD := if (goesA A).1 = true then (11, (goesA A).2) else (0, k (goesA A).2)
def emptyF (s : List UInt8) : FR := (s, [], [], ())
def moreF (f : FR) (b : List UInt8) : FR := (f.1, f.2.1, f.2.2.1 ++ b, ())
def safeF (s : List UInt8) (f : FR) : FR := (s, f.2.1 ++ f.2.2.1, [], ())
def cutF (s : List UInt8) (f : FR) (n : Nat) : FR := if n ≤ f.2.1.length then (s, f.2.1.take n, [], ()) else (s, f.2.1, f.2.2.1.take (n - f.2.1.length), ())
abbrev full (A : AD) (s b : List UInt8) : Prop := ((findL s A.2.1).isNone = true ∧ 128 ≤ A.2.1.length) ∨ (65536 < b.length + fsize ((findL s A.2.1).getD (emptyF s))) ∨ A.1 < (b.length : Int) + usedL A.2.1

def appendA (A : AD) (s b : List UInt8) : Int × AD :=
  if A.2.2.2.1 = true then (11, A) else if okName s = false then (2, A) else
  if full A s b then (10, A) else
  writeA (putA A (setL (moreF ((findL s A.2.1).getD (emptyF s)) b) false A.2.1)) id

def someA (A : AD) (s : List UInt8) (k : FR → Int × AD) : Int × AD :=
  if A.2.2.2.1 = true then (11, A) else match findL s A.2.1 with
    | none => (8, A)
    | some f => k f

def syncA (A : AD) (s : List UInt8) : Int × AD := someA A s fun f => writeA A (fun B => putA B (setL (safeF s f) false B.2.1))
def truncA (A : AD) (s : List UInt8) (n : Int) : Int × AD := someA A s fun f => if n < 0 ∨ (fsize f : Int) < n then (3, A) else writeA A (fun B => putA B (setL (cutF s f n.toNat) false B.2.1))
def crashA (A : AD) (keep : List Int) : AD := (A.1, crashL A.2.1 keep, 0, false, ())
def readA (A : AD) (s : List UInt8) : List UInt8 × Int := if A.2.2.2.1 = true then ([], 11) else match findL s A.2.1 with
  | none => ([], 8)
  | some f => (f.2.1 ++ f.2.2.1, 0)
structure OkA (A : AD) : Prop where
  sorted : SortL A.2.1
  files : A.2.1.length ≤ 128
  each : ∀ f ∈ A.2.1, fsize f ≤ 65536
  used : (usedL A.2.1 : Int) ≤ A.1
  room : A.1 ≤ 1048576
  armed : 0 ≤ A.2.2.1 ∧ A.2.2.1 < 9223372036854775808

theorem OkA.goes {A : AD} (h : OkA A) : OkA (goesA A).2 := by
  unfold goesA
  split
  · exact h
  · obtain ⟨h1, h2, h3, h4, h5, h6⟩ := h
    exact ⟨h1, h2, h3, h4, h5, by have := h6; simp only; omega⟩

theorem goesA_L (A : AD) : (goesA A).2.2.1 = A.2.1 ∧ (goesA A).2.1 = A.1 := by
  unfold goesA; split <;> exact ⟨rfl, rfl⟩

theorem setL_len (f : FR) (L : List FR) : (setL f false L).length = (dropL f.1 L).length + 1 := by
  rw [(setL_perm f L).length_eq]; rfl

theorem setL_used (f : FR) (L : List FR) : usedL (setL f false L) = fsize f + usedL (dropL f.1 L) := by
  rw [usedL_perm (setL_perm f L)]; rfl

theorem OkA.put {A : AD} (h : OkA A) {g f : FR} {s : List UInt8} (hf : findL s A.2.1 = some f) (hg : g.1 = s) (hle : fsize g ≤ fsize f) : OkA (putA A (setL g false A.2.1)) := by
  obtain ⟨h1, h2, h3, h4, h5, h6⟩ := h
  have hp := dropL_perm h1 hf
  have hl := hp.length_eq
  have hu := usedL_perm hp
  simp only [List.length_cons, usedL] at hl hu
  refine ⟨h1.set, ?_, ?_, ?_, h5, h6⟩
  · simp only [putA, setL_len, hg]; omega
  · intro x hx
    rcases mem_setL.1 hx with rfl | ⟨hx, _⟩
    · exact Nat.le_trans hle (h3 f (findL_some hf).1)
    · exact h3 x hx
  · simp only [putA, setL_used, hg]; omega

theorem crashL_len : ∀ (L : List FR) (keep : List Int), (crashL L keep).length = L.length
  | [], _ => rfl
  | f :: r, keep => by
    unfold crashL
    cases f.2.2.1.isEmpty
    · simp [crashL_len r]
    · simp [crashL_len r]

theorem crashL_names : ∀ (L : List FR) (keep : List Int), (crashL L keep).map (·.1) = L.map (·.1)
  | [], _ => rfl
  | f :: r, keep => by
    unfold crashL
    cases f.2.2.1.isEmpty
    · simp [crashL_names r]
    · simp [crashL_names r]

theorem crashL_used : ∀ (L : List FR) (keep : List Int), usedL (crashL L keep) ≤ usedL L
  | [], _ => Nat.le_refl _
  | f :: r, keep => by
    unfold crashL
    have h1 := crashL_used r keep
    have h2 := crashL_used r keep.tail
    cases f.2.2.1.isEmpty
    · simp only [cond_false, usedL, fsize, List.length_append, List.length_take, List.length_nil]; omega
    · simp only [cond_true, usedL, fsize, List.length_nil]; omega

theorem crashL_each {m : Nat} : ∀ (L : List FR) (keep : List Int), (∀ f ∈ L, fsize f ≤ m) → ∀ f ∈ crashL L keep, fsize f ≤ m
  | [], _, _ => by simp [crashL]
  | f :: r, keep, h => by
    have hf := h f List.mem_cons_self
    have h1 := crashL_each r keep (fun x hx => h x (List.mem_cons_of_mem _ hx))
    have h2 := crashL_each r keep.tail (fun x hx => h x (List.mem_cons_of_mem _ hx))
    unfold crashL
    unfold fsize at hf
    intro x hx
    cases hb : f.2.2.1.isEmpty
    · rw [hb] at hx
      simp only [cond_false, List.mem_cons] at hx
      rcases hx with rfl | hx
      · simp only [fsize, List.length_append, List.length_take, List.length_nil]; omega
      · exact h2 x hx
    · rw [hb] at hx
      simp only [cond_true, List.mem_cons] at hx
      rcases hx with rfl | hx
      · simp only [fsize, List.length_nil]; omega
      · exact h1 x hx

theorem SortL_names {L L' : List FR} (h : L.map (·.1) = L'.map (·.1)) (hs : SortL L) : SortL L' := by
  have h1 : (L.map (·.1)).Pairwise (· < ·) := List.pairwise_map.2 hs
  rw [h] at h1
  exact List.pairwise_map.1 h1

theorem OkA.crash {A : AD} (h : OkA A) (keep : List Int) : OkA (crashA A keep) := by
  obtain ⟨h1, h2, h3, h4, h5, h6⟩ := h
  have hl := crashL_len A.2.1 keep
  have hu := crashL_used A.2.1 keep
  refine ⟨SortL_names (crashL_names A.2.1 keep).symm h1, ?_, crashL_each _ _ h3, ?_, h5, ?_⟩
  · simp only [crashA]; omega
  · simp only [crashA]; omega
  · simp only [crashA]; omega

theorem OkA.appended {A : AD} (h : OkA A) {s b : List UInt8} (hc : ¬ full A s b) : OkA (putA A (setL (moreF ((findL s A.2.1).getD (emptyF s)) b) false A.2.1)) := by
  obtain ⟨h1, h2, h3, h4, h5, h6⟩ := h
  simp only [full, not_or, not_and, Nat.not_le, Nat.not_lt, Int.not_lt] at hc
  obtain ⟨c1, c2, c3⟩ := hc
  cases hf : findL s A.2.1 with
  | none =>
    rw [hf] at c1 c2
    have c1 := c1 rfl
    have hd := dropL_none hf
    have e1 : (moreF ((none : Option FR).getD (emptyF s)) b).1 = s := rfl
    refine ⟨h1.set, ?_, ?_, ?_, h5, h6⟩
    · simp only [putA, setL_len, e1, hd]; omega
    · intro x hx
      rcases mem_setL.1 hx with rfl | ⟨hx, _⟩
      · simp only [Option.getD_none, fsize, emptyF, moreF, List.length_append, List.length_nil] at c2 ⊢; omega
      · exact h3 x hx
    · simp only [putA, setL_used, e1, hd]
      simp only [Option.getD_none, fsize, emptyF, moreF, List.length_append, List.length_nil] at c2 ⊢; omega
  | some f =>
    rw [hf] at c1 c2
    have hn := (findL_some hf).2
    have hp := dropL_perm h1 hf
    have hl := hp.length_eq
    have hu := usedL_perm hp
    simp only [List.length_cons, usedL] at hl hu
    have e1 : (moreF ((some f).getD (emptyF s)) b).1 = s := hn
    refine ⟨h1.set, ?_, ?_, ?_, h5, h6⟩
    · simp only [putA, setL_len, e1]; omega
    · intro x hx
      rcases mem_setL.1 hx with rfl | ⟨hx, _⟩
      · simp only [Option.getD_some, fsize, moreF, List.length_append] at c2 ⊢; omega
      · exact h3 x hx
    · simp only [putA, setL_used, e1]
      simp only [Option.getD_some, fsize, moreF, List.length_append] at c2 hu ⊢; omega

theorem used_id {A : AD} (hA : OkA A) : IntKind.wrap .i64 (A.1 - ((usedL A.2.1 : Nat) : Int)) = A.1 - ((usedL A.2.1 : Nat) : Int) := by
  have h1 := hA.used; have h2 := hA.room
  rw [wrap_id (by omega) (by omega)]

end Go.Proofs.YtbnmhjobnepajaaGreat.M


namespace Go.Proofs.YtbnmhjobnepajaaGreat.M

abbrev ME : Type := List UInt8 × Option Nat

section
variable {m : List ME} {s : List UInt8}

def Keys (m : List ME) : Prop := (m.map (·.1)).Nodup

theorem mapGet_cons (q : ME) (r : List ME) : mapGet .str (.ptr T_disk_file) s (q :: r) = cond (s == q.1) (some q.2) (mapGet .str (.ptr T_disk_file) s r) := by
  obtain ⟨k, v⟩ := q
  simp only [mapGet, keyEq]
  cases (s == k) <;> rfl

theorem mapGet_mem (hk : Keys m) {v : Option Nat} (h : (s, v) ∈ m) : mapGet .str (.ptr T_disk_file) s m = some v := by
  induction m with
  | nil => simp at h
  | cons q r ih =>
    rw [mapGet_cons]
    unfold Keys at hk
    rw [List.map_cons, List.nodup_cons] at hk
    rcases List.mem_cons.1 h with rfl | h
    · simp
    · have : (s == q.1) = false := by
        have : s ≠ q.1 := fun e => hk.1 (by rw [← e]; exact List.mem_map.2 ⟨_, h, rfl⟩)
        simpa using this
      rw [this]; exact ih hk.2 h

theorem mapGet_no (h : ∀ q ∈ m, q.1 ≠ s) : mapGet .str (.ptr T_disk_file) s m = none := by
  induction m with
  | nil => rfl
  | cons q r ih =>
    rw [mapGet_cons]
    have : (s == q.1) = false := by
      have := h q List.mem_cons_self
      simpa using fun e => this e.symm
    rw [this]; exact ih (fun q hq => h q (List.mem_cons_of_mem _ hq))

def others (s : List UInt8) (m : List ME) : List ME := m.filter (fun q => !(q.1 == s))

theorem others_self (h : ∀ q ∈ m, q.1 ≠ s) : others s m = m := by
  unfold others; rw [List.filter_eq_self]; intro q hq; simpa using h q hq

theorem mapSet_perm (hk : Keys m) (v : Option Nat) : (mapSet .str (.ptr T_disk_file) s v m).Perm ((s, v) :: others s m) := by
  induction m with
  | nil => exact List.Perm.refl _
  | cons q r ih =>
    obtain ⟨k, u⟩ := q
    unfold Keys at hk
    rw [List.map_cons, List.nodup_cons] at hk
    simp only [mapSet, keyEq]
    cases hs : (s == k) with
    | true =>
      have he : s = k := by simpa using hs
      subst he
      have : others s ((s, u) :: r) = r := by
        unfold others
        rw [List.filter_cons_of_neg (by simp)]
        exact others_self (fun q hq e => hk.1 (by rw [← e]; exact List.mem_map.2 ⟨q, hq, rfl⟩))
      rw [this]
    | false =>
      have : others s ((k, u) :: r) = (k, u) :: others s r := by
        unfold others
        rw [List.filter_cons_of_pos]
        have : s ≠ k := by simpa using hs
        simpa using fun e => this e.symm
      rw [this]
      exact (List.Perm.cons _ (ih hk.2)).trans (List.Perm.swap _ _ _)

end

def cont (f : FR) : denFs fs_disk_file := (f.2.1 ++ f.2.2.1, (f.2.1.length : Int), ())
def entry (q : FR × Nat) : ME := (q.1.1, some q.2)
def rest (s : List UInt8) (qs : List (FR × Nat)) : List (FR × Nat) := qs.filter (fun q => !(q.1.1 == s))

structure DVq (σ : St) (d n0 : Nat) (A : AD) (o : denFs fs_disk_Disk) (qs : List (FR × Nat)) : Prop where
  ho : σ.t_disk_Disk[d]? = some o
  room : o.1 = A.1
  armed : o.2.2.1 = A.2.2.1
  down : o.2.2.2.1 = A.2.2.2.1
  map : o.2.1.Perm (qs.map entry)
  files : (qs.map (·.1)).Perm A.2.1
  nodup : (qs.map (·.2)).Nodup
  lie : ∀ q ∈ qs, σ.t_disk_file[q.2]? = some (cont q.1) ∧ n0 ≤ q.2
  base : n0 ≤ σ.t_disk_file.length

def DV (σ : St) (d n0 : Nat) (A : AD) : Prop := ∃ o qs, DVq σ d n0 A o qs

def oth3 (σ : St) := (σ.up, σ.t_wal_Log, σ.t_wal_segment)

structure FrD (σ σ' : St) (d n0 : Nat) : Prop where
  oth : oth3 σ' = oth3 σ
  up : σ'.up = σ.up
  t_disk_Disk : ∀ i, i ≠ d → i < σ.t_disk_Disk.length → σ'.t_disk_Disk[i]? = σ.t_disk_Disk[i]?
  l105 : σ.t_disk_Disk.length ≤ σ'.t_disk_Disk.length
  t_disk_file : ∀ j, j < n0 → σ'.t_disk_file[j]? = σ.t_disk_file[j]?
  l108 : σ.t_disk_file.length ≤ σ'.t_disk_file.length

theorem FrD.refl (σ : St) (d n0 : Nat) : FrD σ σ d n0 := ⟨rfl, rfl, fun _ _ _ => rfl, Nat.le_refl _, fun _ _ => rfl, Nat.le_refl _⟩
theorem FrD.trans {σ σ' σ'' : St} {d n0 : Nat} (h1 : FrD σ σ' d n0) (h2 : FrD σ' σ'' d n0) : FrD σ σ'' d n0 :=
  ⟨h2.oth.trans h1.oth, h2.up.trans h1.up, fun i hi hl => (h2.t_disk_Disk i hi (Nat.lt_of_lt_of_le hl h1.l105)).trans (h1.t_disk_Disk i hi hl), Nat.le_trans h1.l105 h2.l105, fun j hj => (h2.t_disk_file j hj).trans (h1.t_disk_file j hj), Nat.le_trans h1.l108 h2.l108⟩

section
variable {σ : St} {d n0 : Nat} {A : AD} {o : denFs fs_disk_Disk} {qs : List (FR × Nat)}

theorem DVq.same (h : DVq σ d n0 A o qs) {σ' : St} (h1 : σ'.t_disk_Disk = σ.t_disk_Disk) (h2 : σ'.t_disk_file = σ.t_disk_file) : DVq σ' d n0 A o qs := by
  obtain ⟨a1, a2, a3, a4, a5, a6, a7, a8, a9⟩ := h
  exact ⟨by rw [h1]; exact a1, a2, a3, a4, a5, a6, a7, by rw [h2]; exact a8, by rw [h2]; exact a9⟩

theorem DVq.names (h : DVq σ d n0 A o qs) (hs : SortL A.2.1) : (qs.map (fun q => q.1.1)).Nodup := by
  have h1 : (A.2.1.map (·.1)).Nodup := by
    have : (A.2.1.map (·.1)).Pairwise (· < ·) := List.pairwise_map.2 hs
    exact this.imp (fun h => lne h)
  have h2 := (h.files.map (·.1)).nodup_iff.2 h1
  rw [List.map_map] at h2
  exact h2

theorem DVq.keys (h : DVq σ d n0 A o qs) (hs : SortL A.2.1) : Keys o.2.1 := by
  unfold Keys
  refine (h.map.map (·.1)).nodup_iff.2 ?_
  rw [List.map_map]
  exact h.names hs

theorem DVq.len (h : DVq σ d n0 A o qs) : o.2.1.length = A.2.1.length := by
  have h1 := h.map.length_eq
  have h2 := h.files.length_eq
  simp only [List.length_map] at h1 h2
  omega

theorem DVq.look (h : DVq σ d n0 A o qs) (hs : SortL A.2.1) (s : List UInt8) :
    (findL s A.2.1 = none ∧ mapGet .str (.ptr T_disk_file) s o.2.1 = none ∧ ∀ q ∈ qs, q.1.1 ≠ s) ∨ ∃ f j, findL s A.2.1 = some f ∧ mapGet .str (.ptr T_disk_file) s o.2.1 = some (some j) ∧ (f, j) ∈ qs ∧ f.1 = s ∧ σ.t_disk_file[j]? = some (cont f) := by
  cases hf : findL s A.2.1 with
  | none =>
    have hq : ∀ q ∈ qs, q.1.1 ≠ s := fun q hq => findL_none hf q.1 (h.files.mem_iff.1 (List.mem_map.2 ⟨q, hq, rfl⟩))
    refine .inl ⟨rfl, mapGet_no (fun q hq2 => ?_), hq⟩
    obtain ⟨p, hp, rfl⟩ := List.mem_map.1 (h.map.mem_iff.1 hq2)
    exact hq p hp
  | some f =>
    obtain ⟨h1, h2⟩ := findL_some hf
    obtain ⟨q, hq, rfl⟩ := List.mem_map.1 (h.files.mem_iff.2 h1)
    refine .inr ⟨q.1, q.2, rfl, mapGet_mem (h.keys hs) ?_, hq, h2, (h.lie q hq).1⟩
    refine h.map.mem_iff.2 (List.mem_map.2 ⟨q, hq, ?_⟩)
    unfold entry; rw [h2]

theorem rest_none {s : List UInt8} (h : ∀ q ∈ qs, q.1.1 ≠ s) : rest s qs = qs := by
  unfold rest; rw [List.filter_eq_self]; intro q hq; simpa using h q hq

theorem rest_perm {f : FR} {j : Nat} (hn : (qs.map (fun q => q.1.1)).Nodup) (hq : (f, j) ∈ qs) : qs.Perm ((f, j) :: rest f.1 qs) := by
  induction qs with
  | nil => simp at hq
  | cons p r ih =>
    rw [List.map_cons, List.nodup_cons] at hn
    rcases List.mem_cons.1 hq with rfl | hq
    · have : rest f.1 ((f, j) :: r) = r := by
        unfold rest
        rw [List.filter_cons_of_neg (by simp)]
        exact rest_none (fun q hq e => hn.1 (by rw [← e]; exact List.mem_map.2 ⟨q, hq, rfl⟩))
      rw [this]
    · have : rest f.1 (p :: r) = p :: rest f.1 r := by
        unfold rest
        rw [List.filter_cons_of_pos]
        have : p.1.1 ≠ f.1 := fun e => hn.1 (by rw [e]; exact List.mem_map.2 ⟨(f, j), hq, rfl⟩)
        simpa using this
      rw [this]
      exact (List.Perm.cons _ (ih hn.2 hq)).trans (List.Perm.swap _ _ _)

theorem rest_map (s : List UInt8) : (rest s qs).map entry = others s (qs.map entry) := by
  unfold rest others
  rw [List.filter_map]
  rfl

theorem rest_fst (s : List UInt8) : (rest s qs).map (·.1) = dropL s (qs.map (·.1)) := by
  unfold rest
  rw [dropL_eq, List.filter_map]
  rfl

theorem dropL_congr {s : List UInt8} {L L' : List FR} (h : L.Perm L') : (dropL s L).Perm (dropL s L') := by
  rw [dropL_eq, dropL_eq]; exact h.filter _

theorem mem_rest {s : List UInt8} {q : FR × Nat} : q ∈ rest s qs ↔ q ∈ qs ∧ q.1.1 ≠ s := by
  unfold rest; rw [List.mem_filter]; simp

theorem DVq.perm (h : DVq σ d n0 A o qs) {L : List FR} (hL : A.2.1.Perm L) : DVq σ d n0 (putA A L) o qs := by
  obtain ⟨a1, a2, a3, a4, a5, a6, a7, a8, a9⟩ := h
  exact ⟨a1, a2, a3, a4, a5, a6.trans hL, a7, a8, a9⟩

theorem cons_set {g : FR} {L L' : List FR} (h : L.Perm (dropL g.1 L')) : (g :: L).Perm (setL g false L') :=
  (List.Perm.cons g h).trans (setL_perm g L').symm

theorem DVq.upd (h : DVq σ d n0 A o qs) (hs : SortL A.2.1) {f g : FR} {j : Nat} (hq : (f, j) ∈ qs) (hg : g.1 = f.1) :
    DVq (σ.set1_disk_file j (cont g)) d n0 (putA A (setL g false A.2.1)) o ((g, j) :: rest f.1 qs) := by
  have hp := rest_perm (h.names hs) hq
  have hj := (h.lie _ hq).1
  have hnd : (j :: (rest f.1 qs).map (fun q => q.2)).Nodup := (hp.map (fun q : FR × Nat => q.2)).nodup_iff.1 h.nodup
  refine ⟨h.ho, h.room, h.armed, h.down, ?_, ?_, hnd, ?_, ?_⟩
  · refine h.map.trans ((hp.map entry).trans ?_)
    rw [List.map_cons, List.map_cons]
    have : entry (g, j) = entry (f, j) := by unfold entry; rw [hg]
    rw [this]
  · rw [List.map_cons, rest_fst, ← hg]
    exact cons_set (dropL_congr h.files)
  · intro q hq2
    rcases List.mem_cons.1 hq2 with rfl | hq2
    · exact ⟨set1_disk_file_get hj, (h.lie _ hq).2⟩
    · have hne : j ≠ q.2 := fun e => (List.nodup_cons.1 hnd).1 (by rw [e]; exact List.mem_map.2 ⟨q, hq2, rfl⟩)
      obtain ⟨e1, e2⟩ := h.lie q (mem_rest.1 hq2).1
      refine ⟨?_, e2⟩
      simp only [St.set1_disk_file]
      rw [List.getElem?_set_ne hne]; exact e1
  · simpa [St.set1_disk_file] using h.base

theorem frame108 {j : Nat} {x : denFs fs_disk_file} (hj : n0 ≤ j) : FrD σ (σ.set1_disk_file j x) d n0 := by
  refine ⟨rfl, rfl, fun _ _ _ => rfl, Nat.le_refl _, fun i hi => ?_, by simp [St.set1_disk_file]⟩
  simp only [St.set1_disk_file]
  rw [List.getElem?_set_ne (by omega)]

theorem frame105 {x : denFs fs_disk_Disk} : FrD σ (σ.set1_disk_Disk d x) d n0 := by
  refine ⟨rfl, rfl, fun i hi _ => ?_, by simp [St.set1_disk_Disk], fun _ _ => rfl, Nat.le_refl _⟩
  simp only [St.set1_disk_Disk]
  rw [List.getElem?_set_ne (Ne.symm hi)]

theorem frame_add108 {x : denFs fs_disk_file} (hb : n0 ≤ σ.t_disk_file.length) : FrD σ (σ.add_disk_file x) d n0 := by
  refine ⟨rfl, rfl, fun _ _ _ => rfl, Nat.le_refl _, fun j hj => ?_, by simp [St.add_disk_file]⟩
  simp only [St.add_disk_file]
  rw [List.getElem?_append_left (by omega)]

theorem DVq.link (h : DVq σ d n0 A o qs) (hs : SortL A.2.1) {g : FR} {j : Nat} (hj : j ∉ qs.map (·.2)) (hc : σ.t_disk_file[j]? = some (cont g)) (hb : n0 ≤ j) :
    DVq (σ.set1_disk_Disk d (o.1, mapSet .str (.ptr T_disk_file) g.1 (some j) o.2.1, o.2.2.1, o.2.2.2.1, ())) d n0 (putA A (setL g false A.2.1)) (o.1, mapSet .str (.ptr T_disk_file) g.1 (some j) o.2.1, o.2.2.1, o.2.2.2.1, ()) ((g, j) :: rest g.1 qs) := by
  refine ⟨set1_disk_Disk_get h.ho, h.room, h.armed, h.down, ?_, ?_, ?_, ?_, h.base⟩
  · refine (mapSet_perm (h.keys hs) (some j)).trans ?_
    rw [List.map_cons, rest_map]
    exact List.Perm.cons _ (h.map.filter _)
  · rw [List.map_cons, rest_fst]
    exact cons_set (dropL_congr h.files)
  · rw [List.map_cons, List.nodup_cons]
    refine ⟨fun hm => hj ?_, (List.filter_sublist.map _).nodup h.nodup⟩
    obtain ⟨q, hq, e⟩ := List.mem_map.1 hm
    exact List.mem_map.2 ⟨q, (mem_rest.1 hq).1, e⟩
  · intro q hq
    rcases List.mem_cons.1 hq with rfl | hq
    · exact ⟨hc, hb⟩
    · exact h.lie q (mem_rest.1 hq).1

theorem DVq.state (h : DVq σ d n0 A o qs) {a : Int} {b : Bool} : DVq (σ.set1_disk_Disk d (o.1, o.2.1, a, b, ())) d n0 (A.1, A.2.1, a, b, ()) (o.1, o.2.1, a, b, ()) qs :=
  ⟨set1_disk_Disk_get h.ho, h.room, rfl, rfl, h.map, h.files, h.nodup, h.lie, h.base⟩

theorem used_entries : ∀ {qs : List (FR × Nat)}, (∀ q ∈ qs, σ.t_disk_file[q.2]? = some (cont q.1)) → usedS (qs.map entry) σ = some (usedL (qs.map (·.1)))
  | [], _ => rfl
  | q :: r, h => by
    refine usedS_cons.2 ⟨q.2, cont q.1, usedL (r.map (·.1)), rfl, h q List.mem_cons_self, used_entries (fun p hp => h p (List.mem_cons_of_mem _ hp)), ?_⟩
    simp [usedL, fsize, cont]

theorem f20_eq (h : DVq σ d n0 A o qs) (hA : OkA A) : f_disk_Disk_Used (some d) σ = some ((usedL A.2.1 : Nat) : Int) := by
  unfold f_disk_Disk_Used
  have h1 := used_entries (σ := σ) (qs := qs) (fun q hq => (h.lie q hq).1)
  have h2 := usedS_perm h.map.symm h1
  rw [usedL_perm h.files] at h2
  have h3 := hA.used; have h4 := hA.room
  simp [h.ho, h2]
  rw [wrap_id (by omega) (by omega)]

theorem sorted_eq {l l' : List (List UInt8)} (h : l.Perm l') (hs : l'.Pairwise (· < ·)) : sorted l = l' := by
  unfold sorted
  have hp := (List.mergeSort_perm l (fun x y => decide (x ≤ y))).trans h
  refine hp.eq_of_pairwise (le := fun x y => x ≤ y) ?_ ?_ ?_
  · intro a b _ _ h1 h2; exact List.le_antisymm h1 h2
  · have := List.pairwise_mergeSort (le := fun x y : List UInt8 => decide (x ≤ y)) (fun a b c h1 h2 => by simp only [decide_eq_true_eq] at *; exact List.le_trans h1 h2) (fun a b => by simp only [Bool.or_eq_true, decide_eq_true_eq]; exact List.le_total a b) l
    exact this.imp (fun h => by simpa using h)
  · exact hs.imp (fun h => List.le_of_lt h)

theorem f21_eq (h : DVq σ d n0 A o qs) (hA : OkA A) : f_disk_Disk_List (some d) σ = some (A.2.1.map (·.1)) := by
  unfold f_disk_Disk_List
  have hl := h.len
  have hf := hA.files
  have hp : (o.2.1.map (·.1)).Perm (A.2.1.map (·.1)) := by
    refine (h.map.map (·.1)).trans ?_
    rw [List.map_map]
    have := h.files.map (·.1)
    rw [List.map_map] at this
    exact this
  have hs := sorted_eq hp (List.pairwise_map.2 hA.sorted)
  have hg : (o.2.1.length + 1) * 16 ≤ 140737488355328 := by omega
  simp [h.ho, hs, hg]

theorem f70_eq (h : DVq σ d n0 A o qs) : f70 (some d) σ = some (if A.2.2.2.1 = true then 11 else 0) := by
  unfold f70
  have := h.down
  simp only [h.ho, Option.isNone_some, Option.bind_eq_bind, Option.bind_some, this]
  rw [if_neg (by decide)]
  split <;> rfl

theorem f77_cases (h : DVq σ d n0 A o qs) (hA : OkA A) (s : List UInt8) :
    (A.2.2.2.1 = true ∧ f77 (some d) s σ = some (none, 11)) ∨ (A.2.2.2.1 = false ∧ ((findL s A.2.1 = none ∧ f77 (some d) s σ = some (none, 8)) ∨ ∃ f j, findL s A.2.1 = some f ∧ (f, j) ∈ qs ∧ f.1 = s ∧ σ.t_disk_file[j]? = some (cont f) ∧ mapGet .str (.ptr T_disk_file) s o.2.1 = some (some j) ∧ f77 (some d) s σ = some (some j, 0))) := by
  unfold f77
  rw [f70_eq h]
  simp only [h.ho, Option.bind_eq_bind, Option.bind_some]
  cases hd : A.2.2.2.1 with
  | true => exact .inl ⟨rfl, by simp⟩
  | false =>
    refine .inr ⟨rfl, ?_⟩
    rcases h.look hA.sorted s with ⟨h1, h2, _⟩ | ⟨f, j, h1, h2, h3, h4, h5⟩
    · exact .inl ⟨h1, by simp [h2, zeroK]⟩
    · exact .inr ⟨f, j, h1, h3, h4, h5, h2, by simp [h2]⟩

theorem f28_eq (h : DVq σ d n0 A o qs) (hA : OkA A) (s : List UInt8) : f28 (some d) s σ = some (readA A s) := by
  unfold f28 readA
  rcases f77_cases h hA s with ⟨h1, h2⟩ | ⟨h1, ⟨h2, h3⟩ | ⟨f, j, h2, h3, h4, h5, _, h6⟩⟩
  · simp [h1, h2]
  · simp [h1, h2, h3]
  · simp [h1, h2, h6, h5, cont]

theorem f31_eq (h : DVq σ d n0 A o qs) : f31 (some d) σ = some A.2.2.2.1 := by
  unfold f31
  simp [h.ho, h.down]
end
end Go.Proofs.YtbnmhjobnepajaaGreat.M


namespace Go.Proofs.YtbnmhjobnepajaaGreat.M

def Oth (σ σ1 : St) : Prop := σ1.t_disk_file = σ.t_disk_file ∧ σ1.t_c_t91 = σ.t_c_t91 ∧ σ1.t_c_t3 = σ.t_c_t3 ∧ σ1.t_c_t9 = σ.t_c_t9 ∧ σ1.t_c_t23 = σ.t_c_t23

section
variable {σ : St} {d n0 : Nat} {A : AD} {o : denFs fs_disk_Disk} {qs : List (FR × Nat)}

theorem set105_set {X Y : denFs fs_disk_Disk} : (σ.set1_disk_Disk d X).set1_disk_Disk d Y = σ.set1_disk_Disk d Y := by unfold St.set1_disk_Disk; simp
theorem set108_set {j : Nat} {X Y : denFs fs_disk_file} : (σ.set1_disk_file j X).set1_disk_file j Y = σ.set1_disk_file j Y := by unfold St.set1_disk_file; simp

theorem FrD.of {σ' : St} (h1 : σ'.up = σ.up) (h2 : σ'.t_disk_Disk = σ.t_disk_Disk) (h3 : σ'.t_disk_file = σ.t_disk_file) (h4 : oth3 σ' = oth3 σ := by rfl) : FrD σ σ' d n0 :=
  ⟨h4, h1, fun i _ _ => by rw [h2], by rw [h2]; exact Nat.le_refl _, fun i _ => by rw [h3], by rw [h3]; exact Nat.le_refl _⟩

theorem DV.same {σ' : St} (h : DV σ d n0 A) (h1 : σ'.t_disk_Disk = σ.t_disk_Disk) (h2 : σ'.t_disk_file = σ.t_disk_file) : DV σ' d n0 A := by
  obtain ⟨o, qs, h⟩ := h
  exact ⟨o, qs, h.same h1 h2⟩

def Gives (r : Option (Int × St)) (σ : St) (d n0 : Nat) (p : Int × AD) : Prop := ∃ σ', r = some (p.1, σ') ∧ DV σ' d n0 p.2 ∧ FrD σ σ' d n0

theorem Gives.from {r : Option (Int × St)} {σ0 : St} {p : Int × AD} (h : Gives r σ d n0 p) (hf : FrD σ0 σ d n0) : Gives r σ0 d n0 p := by
  obtain ⟨σ', e1, e2, e3⟩ := h
  exact ⟨σ', e1, e2, hf.trans e3⟩

theorem f72_eq (h : DVq σ d n0 A o qs) (hA : OkA A) (hd : A.2.2.2.1 = false) {p1 : St → Option (Unit × St)} {k : AD → AD}
    (hp : ∀ σ1 o1, DVq σ1 d n0 (goesA A).2 o1 qs → o1.2.1 = o.2.1 → Oth σ σ1 → ∃ σ2, p1 σ1 = some ((), σ2) ∧ DV σ2 d n0 (k (goesA A).2) ∧ FrD σ1 σ2 d n0) :
    Gives (f72 (some d) p1 σ) σ d n0 (writeA A k) := by
  unfold f72 writeA
  simp only [h.ho, Option.bind_eq_bind, Option.bind_some, h.armed]
  by_cases h0 : A.2.2.1 = 0
  · have hg : goesA A = (false, A) := by unfold goesA; rw [if_pos h0]
    rw [hg] at hp ⊢
    obtain ⟨σ2, e1, e2, e3⟩ := hp σ o h rfl ⟨rfl, rfl, rfl, rfl, rfl⟩
    exact ⟨σ2, by simp [h0, e1], e2, e3⟩
  · have ha := hA.armed
    have hw : IntKind.wrap .i64 (A.2.2.1 - 1) = A.2.2.1 - 1 := wrap_id (by omega) (by omega)
    have hg : goesA A = (A.2.2.1 == 1, (A.1, A.2.1, A.2.2.1 - 1, A.2.2.1 == 1, ())) := by unfold goesA; rw [if_neg h0]
    have hpos : decide (A.2.2.1 > 0) = true := by simp; omega
    rw [hg] at hp ⊢
    simp only [hpos, if_true, hw, set1_disk_Disk_get h.ho, Option.bind_some, set105_set]
    by_cases h1 : A.2.2.1 = 1
    · refine ⟨_, by simp [h1]; rfl, ?_, frame105⟩
      have := h.state (a := A.2.2.1 - 1) (b := true)
      rw [h1] at this ⊢
      exact ⟨_, _, this⟩
    · have e : ((A.2.2.1 - 1 == 0) : Bool) = false := by
        have : ¬ (A.2.2.1 - 1 = 0) := by omega
        simpa using this
      have e2 : ((A.2.2.1 == 1) : Bool) = false := by simpa using h1
      rw [e2] at hp
      have hq := h.state (a := A.2.2.1 - 1) (b := o.2.2.2.1)
      have hdn : o.2.2.2.1 = false := h.down.trans hd
      rw [hdn] at hq
      obtain ⟨σ2, e3, e4, e5⟩ := hp _ _ hq rfl ⟨rfl, rfl, rfl, rfl, rfl⟩
      refine ⟨σ2, ?_, ?_, frame105.trans e5⟩
      · rw [hdn]; simp [e, e2, e3]
      · simp only [e2]; exact e4

theorem f33_eq (h : DV σ d n0 A) (hA : OkA A) (s : List UInt8) : Gives (f33 (some d) s σ) σ d n0 (syncA A s) := by
  obtain ⟨o, qs, h⟩ := h
  unfold f33 syncA someA
  rcases f77_cases h hA s with ⟨h1, h2⟩ | ⟨h1, ⟨h2, h3⟩ | ⟨f, j, h2, h3, h4, h5, _, h6⟩⟩
  · rw [h2, if_pos h1]
    exact ⟨(σ.add_c_t91 (none, ())).set1_c_t91 σ.t_c_t91.length (none, ()), by simp, ⟨o, qs, h.same rfl rfl⟩, FrD.of rfl rfl rfl⟩
  · rw [h3, if_neg (by rw [h1]; decide), h2]
    exact ⟨(σ.add_c_t91 (none, ())).set1_c_t91 σ.t_c_t91.length (none, ()), by simp, ⟨o, qs, h.same rfl rfl⟩, FrD.of rfl rfl rfl⟩
  · rw [h6, if_neg (by rw [h1]; decide), h2]
    simp only [Option.bind_eq_bind, Option.bind_some]
    rw [if_neg (by decide)]
    have hh : DVq ((σ.add_c_t91 (none, ())).set1_c_t91 σ.t_c_t91.length (some j, ())) d n0 A o qs := h.same rfl rfl
    have hc : ((σ.add_c_t91 (none, ())).set1_c_t91 σ.t_c_t91.length (some j, ())).t_c_t91[σ.t_c_t91.length]? = some (some j, ()) := set1_c_t91_get got_c_t91
    refine Gives.from ?_ (FrD.of (σ' := (σ.add_c_t91 (none, ())).set1_c_t91 σ.t_c_t91.length (some j, ())) rfl rfl rfl)
    obtain ⟨σ', e1, e2, e3⟩ := f72_eq hh hA h1 (p1 := f78 σ.t_c_t91.length) (k := fun B => putA B (setL (safeF s f) false B.2.1)) (by
      intro σ1 o1 q1 q2 q3
      have hj := (q1.lie _ h3).1
      have hc1 : σ1.t_c_t91[σ.t_c_t91.length]? = some (some j, ()) := by rw [q3.2.1]; exact hc
      refine ⟨σ1.set1_disk_file j (cont (safeF s f)), ?_, ⟨_, _, q1.upd hA.goes.sorted h3 h4.symm⟩, frame108 (q1.lie _ h3).2⟩
      unfold f78
      simp [hc1, hj, cont, safeF])
    exact ⟨σ', by rw [e1]; rfl, e2, e3⟩

theorem f35_eq (h : DV σ d n0 A) (hA : OkA A) (s : List UInt8) (n : Int) : Gives (f35 (some d) s n σ) σ d n0 (truncA A s n) := by
  obtain ⟨o, qs, h⟩ := h
  unfold f35 truncA someA
  have h' : DVq (σ.add_c_t3 (n, ())) d n0 A o qs := h.same rfl rfl
  rcases f77_cases h' hA s with ⟨h1, h2⟩ | ⟨h1, ⟨h2, h3⟩ | ⟨f, j, h2, h3, h4, h5, _, h6⟩⟩
  · rw [h2, if_pos h1]
    exact ⟨((σ.add_c_t3 (n, ())).add_c_t91 (none, ())).set1_c_t91 (σ.add_c_t3 (n, ())).t_c_t91.length (none, ()), by simp, ⟨o, qs, h.same rfl rfl⟩, FrD.of rfl rfl rfl⟩
  · rw [h3, if_neg (by rw [h1]; decide), h2]
    exact ⟨((σ.add_c_t3 (n, ())).add_c_t91 (none, ())).set1_c_t91 (σ.add_c_t3 (n, ())).t_c_t91.length (none, ()), by simp, ⟨o, qs, h.same rfl rfl⟩, FrD.of rfl rfl rfl⟩
  · rw [h6, if_neg (by rw [h1]; decide), h2]
    simp only [Option.bind_eq_bind, Option.bind_some]
    rw [if_neg (by decide)]
    have hfs := hA.each f (findL_some h2).1
    by_cases c1 : n < 0
    · rw [if_pos (by simpa using c1), if_pos (.inl c1)]
      exact ⟨_, rfl, ⟨o, qs, h.same rfl rfl⟩, FrD.of rfl rfl rfl⟩
    rw [if_neg (by simpa using c1)]
    have hl : (((σ.add_c_t3 (n, ())).add_c_t91 (none, ())).set1_c_t91 ((σ.add_c_t3 (n, ())).t_c_t91.length) (some j, ())).t_disk_file[j]? = some (cont f) := h5
    rw [hl]
    simp only [Option.bind_some]
    have hcl : (cont f).1.length = fsize f := by simp [cont, fsize]
    by_cases c2 : (fsize f : Int) < n
    · rw [if_pos (by rw [hcl]; simpa using c2), if_pos (.inr c2)]
      exact ⟨_, rfl, ⟨o, qs, h.same rfl rfl⟩, FrD.of rfl rfl rfl⟩
    rw [if_neg (by rw [hcl]; simpa using c2), if_neg (by simp only [not_or]; exact ⟨c1, c2⟩)]
    have hh : DVq (((σ.add_c_t3 (n, ())).add_c_t91 (none, ())).set1_c_t91 ((σ.add_c_t3 (n, ())).t_c_t91.length) (some j, ())) d n0 A o qs := h.same rfl rfl
    have hc : (((σ.add_c_t3 (n, ())).add_c_t91 (none, ())).set1_c_t91 ((σ.add_c_t3 (n, ())).t_c_t91.length) (some j, ())).t_c_t91[(σ.add_c_t3 (n, ())).t_c_t91.length]? = some (some j, ()) := set1_c_t91_get got_c_t91
    have hc3 : (((σ.add_c_t3 (n, ())).add_c_t91 (none, ())).set1_c_t91 ((σ.add_c_t3 (n, ())).t_c_t91.length) (some j, ())).t_c_t3[σ.t_c_t3.length]? = some (n, ()) := by
      show (σ.add_c_t3 (n, ())).t_c_t3[σ.t_c_t3.length]? = _
      exact got_c_t3
    refine Gives.from ?_ (FrD.of (σ' := ((σ.add_c_t3 (n, ())).add_c_t91 (none, ())).set1_c_t91 ((σ.add_c_t3 (n, ())).t_c_t91.length) (some j, ())) rfl rfl rfl)
    obtain ⟨σ', e1, e2, e3⟩ := f72_eq hh hA h1 (p1 := f79 ((σ.add_c_t3 (n, ())).t_c_t91.length) σ.t_c_t3.length) (k := fun B => putA B (setL (cutF s f n.toNat) false B.2.1)) (by
      intro σ1 o1 q1 q2 q3
      have hj := (q1.lie _ h3).1
      have hc1 : σ1.t_c_t91[(σ.add_c_t3 (n, ())).t_c_t91.length]? = some (some j, ()) := by rw [q3.2.1]; exact hc
      have hc2 : σ1.t_c_t3[σ.t_c_t3.length]? = some (n, ()) := by rw [q3.2.2.1]; exact hc3
      have hn1 : (cutF s f n.toNat).1 = f.1 := by rw [h4]; unfold cutF; split <;> rfl
      refine ⟨σ1.set1_disk_file j (cont (cutF s f n.toNat)), ?_, ⟨_, _, q1.upd hA.goes.sorted h3 hn1⟩, frame108 (q1.lie _ h3).2⟩
      unfold f79
      have hg : (0 : Int) ≤ n ∧ n ≤ ((cont f).1.length : Int) := by rw [hcl]; omega
      simp only [hc1, hc2, hj, Option.bind_eq_bind, Option.bind_some, hg, and_self, if_true, set1_disk_file_get hj, set108_set]
      have : ((f.2.1 ++ f.2.2.1).take n.toNat, (if n < (f.2.1.length : Int) then n else (f.2.1.length : Int)), ()) = cont (cutF s f n.toNat) := by
        unfold cutF cont
        by_cases c3 : n.toNat ≤ f.2.1.length
        · rw [if_pos c3]
          simp only [List.append_nil, List.length_take]
          rw [List.take_append_of_le_length c3]
          congr 2
          split <;> omega
        · rw [if_neg c3]
          simp only []
          rw [List.take_append, List.take_of_length_le (l := f.2.1) (by omega)]
          congr 2
          rw [if_neg (by omega)]
      exact congrArg (fun X => some ((), σ1.set1_disk_file j X)) this)
    exact ⟨σ', by rw [e1]; rfl, e2, e3⟩

theorem f73_id {B : AD} : ∀ σ1 o1, DVq σ1 d n0 B o1 qs → o1.2.1 = o.2.1 → Oth σ σ1 → ∃ σ2, f73 σ1 = some ((), σ2) ∧ DV σ2 d n0 (id B) ∧ FrD σ1 σ2 d n0 :=
  fun σ1 o1 q1 _ _ => ⟨σ1, rfl, ⟨_, _, q1⟩, FrD.refl _ _ _⟩

theorem f24_eq (h : DV σ d n0 A) (hA : OkA A) (s b : List UInt8) (hs : s.length < 9223372036854775808) : Gives (f24 (some d) s b σ) σ d n0 (appendA A s b) := by
  obtain ⟨o, qs, h⟩ := h
  unfold f24 appendA
  rw [f70_eq h]
  simp only [Option.bind_eq_bind, Option.bind_some, f71_eq s hs, h.ho]
  cases hd : A.2.2.2.1 with
  | true => exact ⟨_, by simp, ⟨o, qs, h⟩, FrD.refl _ _ _⟩
  | false =>
    simp only [Bool.false_eq_true, if_false]
    rw [if_neg (by decide)]
    cases hn : okName s with
    | false => exact ⟨_, by simp, ⟨o, qs, h⟩, FrD.refl _ _ _⟩
    | true =>
      simp only [Bool.not_true, Bool.false_eq_true, if_false, Bool.true_eq_false]
      have hdB : ∀ L, (putA A L).2.2.2.1 = false := fun L => hd
      have hlen := h.len
      rcases h.look hA.sorted s with ⟨h1, h2, h3⟩ | ⟨f, j, h1, h2, h3, h4, h5⟩
      · simp only [h2, Option.getD_none, zeroK, Option.isNone_none, Bool.not_true, Bool.false_eq_true, if_false, if_true, Option.bind_some, f20_eq h hA, h.room, used_id hA, decide_eq_true_eq]
        have hw : IntKind.wrap .i64 (65536 - 0) = 65536 := by decide
        rw [hw, hlen]
        have hsz : fsize (emptyF s) = 0 := rfl
        by_cases c1 : (A.2.1.length : Int) ≥ 128
        · rw [if_pos c1, if_pos (.inl ⟨by rw [h1]; rfl, by omega⟩)]
          exact ⟨_, rfl, ⟨o, qs, h⟩, FrD.refl _ _ _⟩
        rw [if_neg c1]
        by_cases c2 : (b.length : Int) > 65536
        · rw [if_pos c2, if_pos (.inr (.inl (by rw [h1]; simp only [Option.getD_none, hsz]; omega)))]
          exact ⟨_, rfl, ⟨o, qs, h⟩, FrD.refl _ _ _⟩
        rw [if_neg c2]
        by_cases c3 : (b.length : Int) > A.1 - ((usedL A.2.1 : Nat) : Int)
        · rw [if_pos c3, if_pos (.inr (.inr (by omega)))]
          exact ⟨_, rfl, ⟨o, qs, h⟩, FrD.refl _ _ _⟩
        rw [if_neg c3]
        have hc : ¬ full A s b := by
          simp only [full, h1, Option.getD_none, hsz, not_or, not_and]
          exact ⟨fun _ => by omega, by omega, by omega⟩
        rw [if_neg hc]
        have hB := hA.appended hc
        rw [h1] at hB ⊢
        have e0 : (σ.add_disk_file ([], 0, ())).t_disk_Disk[d]? = some o := h.ho
        rw [e0]
        simp only [Option.bind_some]
        have q0 : DVq (σ.add_disk_file ([], 0, ())) d n0 A o qs := by
          refine ⟨h.ho, h.room, h.armed, h.down, h.map, h.files, h.nodup, fun q hq => ?_, by have := h.base; simp [St.add_disk_file]; omega⟩
          obtain ⟨a1, a2⟩ := h.lie q hq
          refine ⟨?_, a2⟩
          simp only [St.add_disk_file]
          rw [List.getElem?_append_left (List.getElem?_eq_some_iff.1 a1).1]; exact a1
        have hnew : σ.t_disk_file.length ∉ qs.map (·.2) := fun hm => by
          obtain ⟨q, hq, e⟩ := List.mem_map.1 hm
          have := (List.getElem?_eq_some_iff.1 (h.lie q hq).1).1
          omega
        have q1 := q0.link (g := emptyF s) (j := σ.t_disk_file.length) hA.sorted hnew got_disk_file h.base
        have q2 := q1.upd (g := moreF (emptyF s) b) hA.sorted.set List.mem_cons_self rfl
        have q3 := q2.perm (L := setL (moreF (emptyF s) b) false A.2.1) (by
          refine (setL_perm _ _).trans (List.Perm.trans ?_ (setL_perm _ _).symm)
          refine List.Perm.cons _ ?_
          refine (dropL_congr (setL_perm _ _)).trans ?_
          have e1 : (moreF (emptyF s) b).1 = s := rfl
          have e2 : (emptyF s).1 = s := rfl
          rw [e1, e2]
          simp only [dropL, e2, beq_self_eq_true, cond_true, List.nil_append]
          rw [dropL_none (L := dropL s A.2.1)]
          rw [dropL_none h1]; exact h1)
        have g1 : ((σ.add_disk_file ([], 0, ())).set1_disk_Disk d (o.1, mapSet .str (.ptr T_disk_file) s (some σ.t_disk_file.length) o.2.1, o.2.2.1, o.2.2.2.1, ())).t_disk_file[σ.t_disk_file.length]? = some ([], 0, ()) := got_disk_file
        rw [g1]
        simp only [Option.bind_some]
        have hl : ([] : List UInt8).length + b.length ≤ 9223372036854775807 := by simp; omega
        rw [if_pos hl]
        have hB' : OkA (putA (putA A (setL (emptyF s) false A.2.1)) (setL (moreF (emptyF s) b) false A.2.1)) := hB
        obtain ⟨σ', e1, e2, e3⟩ := f72_eq (k := id) q3 hB' (hdB _) f73_id
        refine ⟨σ', ?_, e2, ((frame_add108 h.base).trans (frame105.trans (frame108 h.base))).trans e3⟩
        have e4 : (([] : List UInt8) ++ b, (0 : Int), ()) = cont (moreF (emptyF s) b) := rfl
        rw [e4]
        have e5 : (emptyF s).1 = s := rfl
        rw [e5] at e1
        rw [e1]; rfl
      · have hfs := hA.each f (findL_some h1).1
        have hcl : (cont f).1.length = fsize f := by simp [cont, fsize]
        simp only [h2, Option.getD_some, Option.isNone_some, Bool.not_false, Bool.false_eq_true, if_false, if_true, Option.bind_some, f20_eq h hA, h.room, used_id hA, decide_eq_true_eq, h5, hcl]
        have hw : IntKind.wrap .i64 (65536 - (fsize f : Int)) = 65536 - (fsize f : Int) := wrap_id (by omega) (by omega)
        rw [hw]
        by_cases c2 : (b.length : Int) > 65536 - (fsize f : Int)
        · rw [if_pos c2, if_pos (.inr (.inl (by rw [h1]; simp only [Option.getD_some]; omega)))]
          exact ⟨_, rfl, ⟨o, qs, h⟩, FrD.refl _ _ _⟩
        rw [if_neg c2]
        by_cases c3 : (b.length : Int) > A.1 - ((usedL A.2.1 : Nat) : Int)
        · rw [if_pos c3, if_pos (.inr (.inr (by omega)))]
          exact ⟨_, rfl, ⟨o, qs, h⟩, FrD.refl _ _ _⟩
        rw [if_neg c3]
        have hc : ¬ full A s b := by
          simp only [full, h1, Option.getD_some, not_or, not_and]
          exact ⟨fun h => by simp at h, by omega, by omega⟩
        rw [if_neg hc]
        have hB := hA.appended hc
        rw [h1] at hB ⊢
        have q2 := h.upd (g := moreF f b) hA.sorted h3 rfl
        have hl : fsize f + b.length ≤ 9223372036854775807 := by omega
        rw [if_pos hl]
        obtain ⟨σ', e1, e2, e3⟩ := f72_eq (k := id) q2 hB (hdB _) f73_id
        refine ⟨σ', ?_, e2, (frame108 (h.lie _ h3).2).trans e3⟩
        have e4 : ((cont f).1 ++ b, (cont f).2.1, ()) = cont (moreF f b) := by simp [cont, moreF]
        rw [e4]
        rw [e1]; rfl

theorem f27_loop (d n0 : Nat) (A0 : AD) : ∀ (suf pre : List FR) (keep : List Int) (σ : St) (A : AD), DV σ d n0 A → A.2.1 = pre ++ suf → SortL (pre ++ suf) → pre.length + suf.length ≤ 128 → (∀ f ∈ suf, fsize f ≤ 65536) →
    ∃ keep' σ', f27_l0 (some d) ((pre ++ suf).map (·.1)) keep ((pre.length : Nat) : Int) σ = some (keep', ((pre.length + suf.length : Nat) : Int), σ') ∧ DV σ' d n0 (putA A (pre ++ crashL suf keep)) ∧ FrD σ σ' d n0
  | [], pre, keep, σ, A, h, hL, hs, hl, hf => by
    rw [f27_l0]
    refine ⟨keep, σ, ?_, ?_, FrD.refl _ _ _⟩
    · simp
    · simp only [crashL]; rw [← hL]; exact h
  | f :: r, pre, keep, σ, A, h, hL, hs, hl, hf => by
    rw [f27_l0]
    obtain ⟨o, qs, h⟩ := h
    have hsA : SortL A.2.1 := by rw [hL]; exact hs
    have hfs := hf f List.mem_cons_self
    have hfd : findL f.1 A.2.1 = some f := findL_of hsA (by rw [hL]; simp) rfl
    have hlook := h.look hsA f.1
    rw [hfd] at hlook
    rcases hlook with ⟨h1, _⟩ | ⟨f', j, h1, h2, h3, h4, h5⟩
    · cases h1
    simp only [Option.some.injEq] at h1; subst h1
    have hn : pre.length < ((pre ++ f :: r).map (·.1)).length := by simp
    have hix : ix ((pre ++ f :: r).map (·.1)) ((pre.length : Nat) : Int) = some f.1 := by rw [ix_at hn]; simp
    have hlt : ((pre.length : Nat) : Int) < (((pre ++ f :: r).map (·.1)).length : Int) := by omega
    simp only [List.length_cons] at hl
    have hw : IntKind.wrap .i64 ((pre.length : Int) + 1) = (((pre ++ [f]).length : Nat) : Int) := by rw [wrap_id (by omega) (by omega)]; simp
    have hmore : IntKind.wrap .i64 (((cont f).1.length : Int) - (cont f).2.1) = (f.2.2.1.length : Int) := by
      unfold fsize at hfs
      have : ((cont f).1.length : Int) - (cont f).2.1 = (f.2.2.1.length : Int) := by simp [cont]; omega
      rw [this, wrap_id (by omega) (by omega)]
    have happ : (pre ++ [f]) ++ r = pre ++ f :: r := by simp
    simp only [hlt, decide_true, if_true, hix, Option.bind_eq_bind, Option.bind_some, h.ho, h2, Option.getD_some, h5, hmore, hw]
    have next : ∀ (g : FR) (keep2 : List Int) (σ2 : St), g.1 = f.1 → DV σ2 d n0 (putA A (pre ++ g :: r)) → FrD σ σ2 d n0 →
        ∃ keep' σ', f27_l0 (some d) ((pre ++ f :: r).map (·.1)) keep2 (((pre ++ [f]).length : Nat) : Int) σ2 = some (keep', ((pre.length + (f :: r).length : Nat) : Int), σ') ∧ DV σ' d n0 (putA A (pre ++ g :: crashL r keep2)) ∧ FrD σ σ' d n0 := by
      intro g keep2 σ2 hg hv hfr
      have hnm : (pre ++ f :: r).map (·.1) = ((pre ++ [g]) ++ r).map (·.1) := by simp [hg]
      obtain ⟨k', σ', e1, e2, e3⟩ := f27_loop d n0 A0 r (pre ++ [g]) keep2 σ2 (putA A (pre ++ g :: r)) hv (by simp [putA]) (SortL_names hnm hs) (by simp; omega) (fun x hx => hf x (List.mem_cons_of_mem _ hx))
      refine ⟨k', σ', ?_, ?_, hfr.trans e3⟩
      · rw [hnm]
        have hpl : (pre ++ [f]).length = (pre ++ [g]).length := by simp
        rw [hpl, e1]
        simp only [List.length_append, List.length_cons, List.length_nil]
        congr 3
        omega
      · have : (pre ++ [g]) ++ crashL r keep2 = pre ++ g :: crashL r keep2 := by simp
        rw [this] at e2; exact e2
    simp only [crashL]
    cases hm : f.2.2.1 with
    | nil =>
      have e : ((f.1, f.2.1, [], ()) : FR) = f := by rw [← hm]
      have h0 : (((([] : List UInt8).length : Int) == 0) : Bool) = true := rfl
      rw [if_pos h0]
      simp only [List.isEmpty_nil, cond_true, e]
      refine next f keep σ rfl ?_ (FrD.refl _ _ _)
      rw [← hL]; exact ⟨o, qs, h⟩
    | cons c t =>
      have h0 : ((((c :: t : List UInt8).length : Int) == 0) : Bool) = false := by
        have : ¬ (((c :: t : List UInt8).length : Int) = 0) := by simp only [List.length_cons]; omega
        simpa using this
      have hkl := keepN_le keep (c :: t).length
      have hfs' := hfs
      unfold fsize at hfs'
      rw [hm] at hfs'
      have hw1 : IntKind.wrap .i64 (((c :: t : List UInt8).length : Int) + 1) = ((c :: t : List UInt8).length : Int) + 1 := wrap_id (by omega) (by omega)
      rw [h0]
      simp only [Bool.false_eq_true, if_false, List.isEmpty_cons, cond_false, hw1]
      have hz : ((if decide ((keep.length : Int) > 0) = true then
          (ix keep 0).bind fun x49 => if ((c :: t : List UInt8).length : Int) + 1 ≠ 0 then if (0 : Int) ≤ 1 ∧ 1 ≤ (keep.length : Int) then some (keep.drop (Int.toNat 1), Int.tmod (if 0 > x49 then 0 else x49) (((c :: t : List UInt8).length : Int) + 1)) else none else none
          else some (keep, 0)) : Option (List Int × Int)) = some (keep.tail, ((keepN keep (c :: t).length : Nat) : Int)) := by
        cases keep with
        | nil => simp [keepN]
        | cons y r' =>
          have hne : ((c :: t : List UInt8).length : Int) + 1 ≠ 0 := by omega
          have hgt : ((y :: r').length : Int) > 0 := by simp only [List.length_cons]; omega
          have hle : (0 : Int) ≤ 1 ∧ 1 ≤ ((y :: r').length : Int) := ⟨by decide, by simp only [List.length_cons]; omega⟩
          have hix0 : ix (y :: r') 0 = some y := rfl
          rw [if_pos (decide_eq_true hgt), hix0, Option.bind_some, if_pos hne, if_pos hle]
          congr 1
          have : (if 0 > y then (0 : Int) else y).tmod (((c :: t : List UInt8).length : Int) + 1) = ((keepN (y :: r') (c :: t).length : Nat) : Int) := by
            simp only [keepN]
            by_cases hy : 0 < y
            · rw [if_neg (by omega), if_pos hy]
              have := Int.tmod_nonneg (((c :: t : List UInt8).length : Int) + 1) (Int.le_of_lt hy)
              omega
            · rw [if_neg hy]
              have : (if 0 > y then (0 : Int) else y) = 0 := by split <;> omega
              rw [this]; simp
          rw [this]; rfl
      rw [hz]
      simp only [Option.bind_some]
      have hsafe : (cont f).2.1 = (f.2.1.length : Int) := rfl
      have hb : (cont f).1 = f.2.1 ++ c :: t := by rw [← hm]; rfl
      have hw2 : IntKind.wrap .i64 ((f.2.1.length : Int) + ((keepN keep (c :: t).length : Nat) : Int)) = ((f.2.1.length + keepN keep (c :: t).length : Nat) : Int) := by rw [wrap_id (by omega) (by omega)]; omega
      rw [hsafe, hw2, hb]
      rw [if_pos ⟨by omega, by simp only [List.length_append]; omega⟩]
      simp only [set1_disk_file_get h5, Option.bind_some, set108_set, Int.toNat_natCast]
      have hcont : ((f.2.1 ++ c :: t).take (f.2.1.length + keepN keep (c :: t).length), ((((f.2.1 ++ c :: t).take (f.2.1.length + keepN keep (c :: t).length)).length : Nat) : Int), ()) = cont (f.1, f.2.1 ++ (c :: t).take (keepN keep (c :: t).length), [], ()) := by
        have : (f.2.1 ++ c :: t).take (f.2.1.length + keepN keep (c :: t).length) = f.2.1 ++ (c :: t).take (keepN keep (c :: t).length) := by
          rw [List.take_append, List.take_of_length_le (l := f.2.1) (by omega)]; simp
        simp only [cont, this, List.append_nil]
      rw [hcont]
      refine next (f.1, f.2.1 ++ (c :: t).take (keepN keep (c :: t).length), [], ()) keep.tail _ rfl ?_ (frame108 (h.lie _ h3).2)
      have q1 := h.upd (g := (f.1, f.2.1 ++ (c :: t).take (keepN keep (c :: t).length), [], ())) hsA h3 rfl
      refine ⟨_, _, q1.perm (L := pre ++ (f.1, f.2.1 ++ (c :: t).take (keepN keep (c :: t).length), [], ()) :: r) ?_⟩
      refine (setL_perm _ _).trans (List.Perm.trans ?_ List.perm_middle.symm)
      refine List.Perm.cons _ ?_
      have p1 := dropL_perm hsA hfd
      rw [hL] at p1
      have p2 : (f :: (pre ++ r)).Perm (f :: dropL f.1 A.2.1) := by
        rw [hL]; exact List.perm_middle.symm.trans p1
      exact (List.Perm.cons_inv p2).symm

theorem f27_eq (h : DV σ d n0 A) (hA : OkA A) (keep : List Int) : Gives (f27 (some d) keep σ) σ d n0 (0, crashA A keep) := by
  have hf := hA.files
  obtain ⟨k', σ', e1, e2, e3⟩ := f27_loop d n0 A A.2.1 [] keep σ A h rfl hA.sorted (by simp; exact hf) hA.each
  obtain ⟨o, qs, h⟩ := h
  obtain ⟨o2, qs2, h2⟩ := e2
  unfold f27
  rw [f21_eq h hA]
  have e1' : f27_l0 (some d) (A.2.1.map (·.1)) keep 0 σ = some (k', ((0 + A.2.1.length : Nat) : Int), σ') := e1
  simp only [Option.isNone_some, Option.bind_eq_bind, Option.bind_some, e1', h2.ho, set1_disk_Disk_get h2.ho, set105_set]
  rw [if_neg (by decide)]
  exact ⟨_, rfl, ⟨_, _, h2.state⟩, e3.trans frame105⟩

theorem f18_eq {room : Int} (h1 : 0 ≤ room) (h2 : room ≤ 1048576) : f18 room σ = some ((some σ.t_disk_Disk.length, 0), σ.add_disk_Disk (room, [], 0, false, ())) ∧ DV (σ.add_disk_Disk (room, [], 0, false, ())) σ.t_disk_Disk.length σ.t_disk_file.length (room, [], 0, false, ()) ∧ OkA (room, [], 0, false, ()) := by
  refine ⟨?_, ⟨(room, [], 0, false, ()), [], ?_⟩, ?_⟩
  · unfold f18
    have c1 : ¬ room < 0 := by omega
    have c2 : ¬ room > 1048576 := by omega
    simp [c1, c2]
  · exact ⟨got_disk_Disk, rfl, rfl, rfl, List.Perm.refl _, List.Perm.refl _, List.nodup_nil, by simp, Nat.le_refl _⟩
  · exact ⟨List.Pairwise.nil, Nat.zero_le _, fun f hf => by simp at hf, h1, h2, Int.le_refl 0, (by decide : (0 : Int) < 9223372036854775808)⟩
end
end Go.Proofs.YtbnmhjobnepajaaGreat.M


namespace Go.Proofs.YtbnmhjobnepajaaGreat.M

abbrev Sg : Type := Nat × List (List UInt8)
def sgB (g : Sg) : List UInt8 := segB g.1 g.2
def sgN (g : Sg) : Nat := g.1 + g.2.length
def nextS (segs : List Sg) : Nat := match segs.getLast? with
  | none => 0
  | some g => sgN g

theorem nextS_app (pre : List Sg) (g : Sg) : nextS (pre ++ [g]) = sgN g := by simp [nextS]

def Chn : Option Nat → List Sg → Prop
  | _, [] => True
  | e, g :: r => (∀ n, e = some n → g.1 = n) ∧ (r ≠ [] → 0 < g.2.length) ∧ Chn (some (sgN g)) r

theorem Chn.ge : ∀ {r : List Sg} {n : Nat}, Chn (some n) r → ∀ h ∈ r, n ≤ h.1
  | [], _, _ => by simp
  | g :: r, n, h => by
    obtain ⟨h1, h2, h3⟩ := h
    intro x hx
    have := h1 n rfl
    rcases List.mem_cons.1 hx with rfl | hx
    · omega
    · have := h3.ge x hx
      unfold sgN at this; omega

theorem Chn.rise : ∀ {r : List Sg} {e : Option Nat}, Chn e r → r.Pairwise (fun g h => g.1 < h.1)
  | [], _, _ => List.Pairwise.nil
  | g :: r, e, h => by
    obtain ⟨h1, h2, h3⟩ := h
    refine List.pairwise_cons.2 ⟨fun x hx => ?_, h3.rise⟩
    have := h3.ge x hx
    have := h2 (List.ne_nil_of_mem hx)
    unfold sgN at *; omega

theorem Chn.last : ∀ {pre : List Sg} {e : Option Nat} {g h : Sg}, Chn e (pre ++ [g]) → h.1 = g.1 → Chn e (pre ++ [h])
  | [], e, g, h, hc, he => by
    obtain ⟨h1, h2, h3⟩ := hc
    exact ⟨fun n hn => by rw [he]; exact h1 n hn, by simp, trivial⟩
  | a :: pre, e, g, h, hc, he => by
    obtain ⟨h1, h2, h3⟩ := hc
    refine ⟨h1, fun _ => h2 (by simp), ?_⟩
    exact Chn.last (pre := pre) h3 he

theorem Chn.snoc : ∀ {pre : List Sg} {e : Option Nat} {g h : Sg}, Chn e (pre ++ [g]) → h.1 = sgN g → 0 < g.2.length → Chn e (pre ++ [g] ++ [h])
  | [], e, g, h, hc, he, hp => by
    obtain ⟨h1, h2, h3⟩ := hc
    exact ⟨h1, fun _ => hp, fun n hn => by rw [he]; simpa using hn, by simp, trivial⟩
  | a :: pre, e, g, h, hc, he, hp => by
    obtain ⟨h1, h2, h3⟩ := hc
    refine ⟨h1, fun _ => h2 (by simp), ?_⟩
    exact Chn.snoc (pre := pre) h3 he hp

structure Good (segs : List Sg) : Prop where
  chain : Chn none segs
  recs : ∀ g ∈ segs, ∀ x ∈ g.2, OkR x
  top : ∀ g ∈ segs, sgN g ≤ 1000000

theorem Good.len {segs : List Sg} (h : Good segs) {g : Sg} (hg : g ∈ segs) : (sgB g).length ≤ g.2.length * 1048 := by
  have := h.top g hg
  unfold sgN at this
  exact segB_len g.1 g.2 (by unfold OkN; omega) (h.recs g hg)

theorem Good.lenB {segs : List Sg} (h : Good segs) {g : Sg} (hg : g ∈ segs) : (sgB g).length ≤ 1048000000 := by
  have h1 := h.len hg
  have h2 := h.top g hg
  unfold sgN at h2
  omega

abbrev Lie (σ : St) (j : Nat) (g : Sg) : Prop := σ.t_wal_segment[j]? = some ((g.1 : Int), g.2, ((sgB g).length : Int), ())

structure LG (σ : St) (l d : Nat) (most : Int) (js : List Nat) (segs : List Sg) (safe : Nat) : Prop where
  lo : σ.t_wal_Log[l]? = some (some d, nmL, most, js.map some, (safe : Int), ())
  nd : js.Nodup
  lie : All2 (Lie σ) js segs

theorem All2.app {α β : Type} {R : α → β → Prop} : ∀ {a : List α} {b : List β} {a' : List α} {b' : List β}, All2 R a b → All2 R a' b' → All2 R (a ++ a') (b ++ b')
  | [], [], _, _, _, h => h
  | _ :: _, _ :: _, _, _, ⟨h1, h2⟩, h => ⟨h1, All2.app h2 h⟩
  | [], _ :: _, _, _, h, _ => h.elim
  | _ :: _, [], _, _, h, _ => h.elim

theorem All2.split {α β : Type} {R : α → β → Prop} : ∀ {a : List α} {b : List β} {y : β}, All2 R a (b ++ [y]) → ∃ a' x, a = a' ++ [x] ∧ All2 R a' b ∧ R x y
  | [], b, y, h => by cases b <;> exact h.elim
  | x :: a, [], y, h => by
    obtain ⟨h1, h2⟩ := h
    cases a with
    | nil => exact ⟨[], x, rfl, trivial, h1⟩
    | cons _ _ => exact h2.elim
  | x :: a, z :: b, y, h => by
    obtain ⟨h1, h2⟩ := h
    obtain ⟨a', x', e, h3, h4⟩ := All2.split (b := b) h2
    exact ⟨x :: a', x', by rw [e]; rfl, ⟨h1, h3⟩, h4⟩

theorem All2.nth {α β : Type} {R : α → β → Prop} : ∀ {a : List α} {b : List β} (h : All2 R a b) (i : Nat) (h1 : i < a.length) (h2 : i < b.length), R a[i] b[i]
  | [], _, _, i, h1, _ => by simp at h1
  | _ :: _, [], h, _, _, _ => h.elim
  | x :: a, y :: b, h, 0, _, _ => h.1
  | x :: a, y :: b, h, i + 1, h1, h2 => All2.nth h.2 i (by simpa using h1) (by simpa using h2)

theorem All2.len {α β : Type} {R : α → β → Prop} : ∀ {a : List α} {b : List β}, All2 R a b → a.length = b.length
  | [], [], _ => rfl
  | _ :: _, _ :: _, ⟨_, h⟩ => by simp [All2.len h]
  | [], _ :: _, h => h.elim
  | _ :: _, [], h => h.elim

theorem All2.imp2 {α β : Type} {R S : α → β → Prop} : ∀ {a : List α} {b : List β}, All2 R a b → (∀ x ∈ a, ∀ y, R x y → S x y) → All2 S a b
  | [], [], _, _ => trivial
  | x :: _, y :: _, ⟨h1, h2⟩, h => ⟨h x List.mem_cons_self y h1, All2.imp2 h2 (fun z hz => h z (List.mem_cons_of_mem _ hz))⟩
  | [], _ :: _, h, _ => h.elim
  | _ :: _, [], h, _ => h.elim

section
variable {σ : St} {l d : Nat} {most : Int} {js : List Nat} {segs : List Sg} {safe : Nat}

theorem LG.same (h : LG σ l d most js segs safe) {σ' : St} (e : oth3 σ' = oth3 σ) : LG σ' l d most js segs safe := by
  have h1 : σ'.t_wal_Log = σ.t_wal_Log := congrArg (fun x => x.2.1) e
  have h2 : σ'.t_wal_segment = σ.t_wal_segment := congrArg (fun x => x.2.2) e
  refine ⟨by rw [h1]; exact h.lo, h.nd, h.lie.imp2 (fun j _ g hg => ?_)⟩
  show σ'.t_wal_segment[j]? = _
  rw [h2]; exact hg

theorem LG.lt (h : LG σ l d most js segs safe) : ∀ j ∈ js, j < σ.t_wal_segment.length := by
  intro j hj
  obtain ⟨i, hi, rfl⟩ := List.getElem_of_mem hj
  have hl := All2.len h.lie
  have := All2.nth h.lie i hi (by omega)
  exact (List.getElem?_eq_some_iff.1 this).1

theorem LG.split {pre : List Sg} {g : Sg} (h : LG σ l d most js (pre ++ [g]) safe) : ∃ jp j, js = jp ++ [j] ∧ All2 (Lie σ) jp pre ∧ Lie σ j g :=
  All2.split h.lie

theorem f97_none (h : LG σ l d most js [] safe) : f97 (some l) σ = some none := by
  have : js = [] := by
    have := All2.len h.lie
    exact List.eq_nil_of_length_eq_zero (by simpa using this)
  subst this
  unfold f97
  simp [h.lo]

theorem f97_last {pre : List Sg} {g : Sg} (h : LG σ l d most js (pre ++ [g]) safe) (hl : pre.length < 1000000) {jp : List Nat} {j : Nat} (e : js = jp ++ [j]) : f97 (some l) σ = some (some j) := by
  subst e
  have hlen := All2.len h.lie
  simp only [List.length_append, List.length_cons, List.length_nil] at hlen
  unfold f97
  simp only [h.lo, Option.bind_eq_bind, Option.bind_some]
  rw [if_neg (by simp; omega)]
  have hw : IntKind.wrap .i64 ((((jp ++ [j]).map some).length : Int) - 1) = ((jp.length : Nat) : Int) := by
    simp only [List.length_map, List.length_append, List.length_cons, List.length_nil]
    rw [wrap_id (by omega) (by omega)]; omega
  have hi : jp.length < ((jp ++ [j]).map some).length := by simp
  rw [hw, ix_at hi]
  simp

theorem nextS_le (hg : Good segs) : nextS segs ≤ 1000000 := by
  rcases List.eq_nil_or_concat segs with rfl | ⟨pre, g, rfl⟩
  · simp [nextS]
  · rw [List.concat_eq_append] at *
    rw [nextS_app]
    exact hg.top g (by simp)

theorem f55_eq (h : LG σ l d most js segs safe) (hg : Good segs) (hl : segs.length ≤ 1000000) : f55 (some l) σ = some ((nextS segs : Nat) : Int) := by
  rcases List.eq_nil_or_concat segs with rfl | ⟨pre, g, rfl⟩
  · have : js = [] := by
      have := All2.len h.lie
      exact List.eq_nil_of_length_eq_zero (by simpa using this)
    subst this
    unfold f55
    simp [h.lo, nextS]
  · rw [List.concat_eq_append] at *
    obtain ⟨jp, j, e, h1, h2⟩ := h.split
    have e97 := f97_last h (by simp at hl; omega) e
    have ht := hg.top g (by simp)
    unfold sgN at ht
    unfold f55
    simp only [h.lo, e97, Option.isNone_some, Bool.false_eq_true, if_false, Option.bind_eq_bind, Option.bind_some]
    rw [if_neg (by rw [e]; simp; omega), h2]
    simp only [Option.bind_some]
    rw [nextS_app, wrap_id (by omega) (by omega)]
    unfold sgN
    congr 1

theorem f98_eq (h : LG σ l d most js segs safe) {j : Nat} {g : Int} {x : denFs fs_wal_segment} (hj : σ.t_wal_segment[j]? = some x) {n : Nat} (hx : x.1 = (n : Int)) (hn : n ≤ 1099511627776) : f98 (some l) (some j) σ = some (fileL n) := by
  have hl := dig_len13 hn
  unfold f98
  simp only [h.lo, hj, hx, f116_eq n (by omega), Option.bind_eq_bind, Option.bind_some]
  rw [if_pos (by decide), if_pos (by simp; omega)]
  rfl

theorem f98_lie (h : LG σ l d most js segs safe) {j : Nat} {g : Sg} (hj : Lie σ j g) (hn : g.1 ≤ 1099511627776) : f98 (some l) (some j) σ = some (fileL g.1) :=
  f98_eq (g := 0) h hj rfl hn

def firstS (segs : List Sg) : Nat := match segs with
  | [] => 0
  | g :: _ => g.1

theorem f54_eq (h : LG σ l d most js segs safe) : f54 (some l) σ = some ((firstS segs : Nat) : Int) := by
  obtain ⟨lo, nd, lie⟩ := h
  cases segs with
  | nil =>
    cases js with
    | nil => unfold f54; simp [lo, firstS]
    | cons _ _ => exact lie.elim
  | cons g r =>
    cases js with
    | nil => exact lie.elim
    | cons j jr =>
      obtain ⟨h1, h2⟩ := lie
      unfold f54
      simp only [lo, Option.isNone_some, Bool.false_eq_true, if_false, Option.bind_eq_bind, Option.bind_some]
      have hx : ix ((j :: jr).map some) 0 = some (some j) := by
        have := ix_at (l := (j :: jr).map some) (n := 0) (by simp)
        simpa using this
      rw [if_neg (by simp; omega), hx]
      simp only [Option.bind_some, h1]
      rfl

theorem f60_eq (h : LG σ l d most js segs safe) : f60 (some l) σ = some (safe : Int) := by
  unfold f60
  simp [h.lo]
end

def lgF (g : Sg) (s : Nat) : FR := (fileL g.1, segB g.1 (g.2.take s), segB (g.1 + s) (g.2.drop s), ())
def lgA (g : Sg) : FR := (fileL g.1, sgB g, [], ())

theorem lgF_all (g : Sg) : lgF g g.2.length = lgA g := by simp [lgF, lgA, sgB, segB]

theorem lgF_bytes (g : Sg) {s : Nat} (hs : s ≤ g.2.length) : (lgF g s).2.1 ++ (lgF g s).2.2.1 = sgB g := by
  unfold lgF sgB
  simp only []
  have h1 : (g.2.take s).length = s := by rw [List.length_take]; omega
  have h2 := segB_app g.1 (g.2.take s) (g.2.drop s)
  rw [h1, List.take_append_drop] at h2
  exact h2.symm

inductive DLs (L : List FR) : List Sg → Nat → Prop
  | none : L = [] → DLs L [] 0
  | some {pre : List Sg} {g : Sg} {s : Nat} : L.Perm (pre.map lgA ++ [lgF g s]) → s ≤ g.2.length → DLs L (pre ++ [g]) s

theorem DLs.inv {L : List FR} {pre : List Sg} {g : Sg} {s : Nat} (h : DLs L (pre ++ [g]) s) : L.Perm (pre.map lgA ++ [lgF g s]) ∧ s ≤ g.2.length := by
  generalize hs : pre ++ [g] = segs at h
  cases h with
  | none _ => simp at hs
  | some h1 h2 =>
    obtain ⟨rfl, e⟩ := List.append_inj' hs rfl
    simp only [List.cons.injEq, and_true] at e
    subst e
    exact ⟨h1, h2⟩

theorem DLs.inv0 {L : List FR} {s : Nat} (h : DLs L [] s) : L = [] ∧ s = 0 := by
  generalize hs : ([] : List Sg) = segs at h
  cases h with
  | none h => exact ⟨h, rfl⟩
  | some _ _ => simp at hs

def numL (x : List UInt8) : Option Int := if 5 < x.length ∧ x.take 5 = [99, 109, 100, 115, 46] then (f140 (x.drop 5)) >>= fun v => if 0 ≤ v then some v else none else none

theorem numL_file {n : Nat} (hn : n ≤ 1099511627776) : numL (fileL n) = some (n : Int) := by
  unfold numL
  have hp := dig_pos n
  have e1 : (fileL n).drop 5 = dig n := rfl
  have e2 : (fileL n).take 5 = [99, 109, 100, 115, 46] := rfl
  have e3 : (fileL n).length = (dig n).length + 5 := rfl
  rw [if_pos ⟨by omega, e2⟩, e1, f140_dig hn]
  simp only [Option.bind_eq_bind, Option.bind_some]
  rw [if_pos (by omega)]

section
variable {σ : St} {l d n0 : Nat} {A : AD}

theorem f114_loop {o : denFs fs_wal_Log} (h : σ.t_wal_Log[l]? = some o) (hnm : o.2.1 = nmL) (names : List (List UInt8)) (hN : ∀ x ∈ names, ∃ n : Nat, n ≤ 1099511627776 ∧ x = fileL n) (hl : names.length ≤ 128) : ∀ (m i : Nat) (acc : List Int), i + m = names.length → acc.length ≤ i →
    f_wal_Log_firsts_l0 (some l) σ names acc (i : Int) = some (acc ++ (names.drop i).filterMap numL, (names.length : Int))
  | 0, i, acc, hi, ha => by
    rw [f_wal_Log_firsts_l0]
    have : i = names.length := by omega
    subst this
    simp
  | m + 1, i, acc, hi, ha => by
    rw [f_wal_Log_firsts_l0]
    have hn : i < names.length := by omega
    have hw : IntKind.wrap .i64 ((i : Int) + 1) = ((i + 1 : Nat) : Int) := by rw [wrap_id (by omega) (by omega)]; omega
    have hd : names.drop i = names[i] :: names.drop (i + 1) := by simp
    have h1 : ((i : Int) < (names.length : Int)) := by omega
    obtain ⟨n, hn1, hn2⟩ := hN names[i] (List.getElem_mem hn)
    have e4 : IntKind.wrap .i64 (((nmL.length : Nat) : Int) + 1) = 5 := by decide
    have t4 : Int.toNat 5 = 5 := rfl
    have hlen := fileL_len hn1
    have hp := dig_pos n
    have e1 : (fileL n).drop 5 = dig n := rfl
    have e2 : (fileL n).take 5 = [99, 109, 100, 115, 46] := rfl
    have e3 : (fileL n).length = (dig n).length + 5 := rfl
    simp only [h1, decide_true, if_true, ix_at hn, Option.bind_eq_bind, Option.bind_some, h, hnm, e4, hw, hn2]
    rw [if_pos (by simp; omega), if_pos (by omega)]
    simp only [t4]
    rw [if_pos (by decide), e2]
    have e5 : nmL ++ [46] = ([99, 109, 100, 115, 46] : List UInt8) := rfl
    rw [e5, if_pos (by simp), if_pos (by omega), e1, eq_140, f140_dig hn1]
    simp only [Option.bind_some]
    rw [if_pos (by simp), if_pos (by omega), f114_loop h hnm names hN hl m (i + 1) (acc ++ [(n : Int)]) (by omega) (by simp; omega), hd, List.filterMap_cons, hn2, numL_file hn1]
    simp

theorem sortedI_eq2 {l l' : List Int} (h : l.Perm l') (hs : l'.Pairwise (· < ·)) : sortedI l = l' := by
  unfold sortedI
  have hp := (List.mergeSort_perm l (fun x y => decide (x ≤ y))).trans h
  refine hp.eq_of_pairwise (le := fun x y => x ≤ y) ?_ ?_ ?_
  · intro a b _ _ h1 h2; omega
  · have := List.pairwise_mergeSort (le := fun x y : Int => decide (x ≤ y)) (fun a b c h1 h2 => by simp only [decide_eq_true_eq] at *; omega) (fun a b => by simp only [Bool.or_eq_true, decide_eq_true_eq]; omega) l
    exact this.imp (fun h => by simpa using h)
  · exact hs.imp (fun h => by omega)

def firsts (segs : List Sg) : List Int := segs.map (fun g => (g.1 : Int))

theorem f114_eq {o : denFs fs_wal_Log} (h : σ.t_wal_Log[l]? = some o) (hnm : o.2.1 = nmL) (ho : o.1 = some d) (hD : DV σ d n0 A) (hA : OkA A) {segs : List Sg} (hN : (A.2.1.map (·.1)).Perm (segs.map (fun g => fileL g.1))) (hg : Good segs) : f_wal_Log_firsts (some l) σ = some (firsts segs) := by
  obtain ⟨od, qs, hq⟩ := hD
  have hf := hA.files
  unfold f_wal_Log_firsts
  simp only [h, ho, f21_eq hq hA, Option.bind_eq_bind, Option.bind_some]
  have htop : ∀ g ∈ segs, g.1 ≤ 1099511627776 := fun g hg2 => by have := hg.top g hg2; unfold sgN at this; omega
  have hNn : ∀ x ∈ A.2.1.map (·.1), ∃ n : Nat, n ≤ 1099511627776 ∧ x = fileL n := by
    intro x hx
    obtain ⟨g, hg2, rfl⟩ := List.mem_map.1 (hN.mem_iff.1 hx)
    exact ⟨g.1, htop g hg2, rfl⟩
  have e := f114_loop h hnm (A.2.1.map (·.1)) hNn (by simpa using hf) (A.2.1.map (·.1)).length 0 [] (by omega) (by simp)
  rw [show (((0 : Nat) : Int)) = (0 : Int) from rfl] at e
  rw [e]
  simp only [Option.bind_some, List.nil_append, List.drop_zero]
  have hlen : ((A.2.1.map (·.1)).filterMap numL).length ≤ 128 := by
    refine Nat.le_trans (List.length_filterMap_le _ _) ?_
    simpa using hf
  rw [if_pos (by omega)]
  congr 1
  refine sortedI_eq2 ?_ ?_
  · refine (hN.filterMap numL).trans ?_
    have : ∀ r : List Sg, (∀ g ∈ r, g ∈ segs) → (r.map (fun g => fileL g.1)).filterMap numL = firsts r := by
      intro r
      induction r with
      | nil => intro _; rfl
      | cons g r ih =>
        intro hr
        rw [List.map_cons, List.filterMap_cons, numL_file (htop g (hr g List.mem_cons_self)), ih (fun x hx => hr x (List.mem_cons_of_mem _ hx))]
        rfl
    rw [this segs (fun g hg => hg)]
  · unfold firsts
    rw [List.pairwise_map]
    exact hg.chain.rise.imp (fun h => by omega)
end
end Go.Proofs.YtbnmhjobnepajaaGreat.M


namespace Go.Proofs.YtbnmhjobnepajaaGreat.M

theorem dropL_self {s : List UInt8} {L : List FR} (h : ∀ f ∈ L, f.1 ≠ s) : dropL s L = L := by
  rw [dropL_eq, List.filter_eq_self]
  intro f hf; simpa using h f hf

theorem dropL_append (s : List UInt8) (L L' : List FR) : dropL s (L ++ L') = dropL s L ++ dropL s L' := by
  rw [dropL_eq, dropL_eq, dropL_eq, List.filter_append]

theorem dropL_all {s : List UInt8} {L : List FR} (h : ∀ f ∈ L, f.1 = s) : dropL s L = [] := by
  rw [dropL_eq, List.filter_eq_nil_iff]
  intro f hf; simpa using h f hf

theorem write_cases {A : AD} (hA : OkA A) (hd : A.2.2.2.1 = false) (k : AD → AD) : ∃ B : AD, B.1 = A.1 ∧ B.2.1 = A.2.1 ∧ OkA B ∧ (A.2.2.1 = 0 → B.2.2.1 = 0) ∧
    ((B.2.2.2.1 = false ∧ writeA A k = (0, k B)) ∨ (B.2.2.2.1 = true ∧ A.2.2.1 ≠ 0 ∧ writeA A k = (11, B))) := by
  refine ⟨(goesA A).2, (goesA_L A).2, (goesA_L A).1, hA.goes, ?_, ?_⟩
  · intro h
    unfold goesA
    rw [if_pos h]; exact h
  · unfold writeA goesA
    by_cases h : A.2.2.1 = 0
    · rw [if_pos h]
      exact .inl ⟨hd, by simp⟩
    · rw [if_neg h]
      by_cases h1 : A.2.2.1 = 1
      · exact .inr ⟨by simp [h1], h, by simp [h1]⟩
      · have e : ((A.2.2.1 == 1) : Bool) = false := by simpa using h1
        exact .inl ⟨by simp [e], by simp [e]⟩

abbrev downA (A : AD) : Bool := A.2.2.2.1
abbrev armA0 (A : AD) : Int := A.2.2.1

end Go.Proofs.YtbnmhjobnepajaaGreat.M


namespace Go.Proofs.YtbnmhjobnepajaaGreat.M

structure Fw (σ σ' : St) (d n0 : Nat) : Prop where
  up : σ'.up = σ.up
  t_disk_Disk : ∀ i, i ≠ d → i < σ.t_disk_Disk.length → σ'.t_disk_Disk[i]? = σ.t_disk_Disk[i]?
  l105 : σ.t_disk_Disk.length ≤ σ'.t_disk_Disk.length
  t_disk_file : ∀ j, j < n0 → σ'.t_disk_file[j]? = σ.t_disk_file[j]?
  l108 : σ.t_disk_file.length ≤ σ'.t_disk_file.length

structure ExW (σ σ' : St) (l : Nat) : Prop where
  t_wal_Log : ∀ i, i ≠ l → i < σ.t_wal_Log.length → σ'.t_wal_Log[i]? = σ.t_wal_Log[i]?
  l128 : σ.t_wal_Log.length ≤ σ'.t_wal_Log.length
  t_wal_segment : ∀ j, j < σ.t_wal_segment.length → σ'.t_wal_segment[j]? = σ.t_wal_segment[j]?
  l130 : σ.t_wal_segment.length ≤ σ'.t_wal_segment.length

section
variable {σ : St} {l d n0 : Nat} {most : Int} {js : List Nat} {segs : List Sg} {safe s : Nat} {A : AD}

theorem ExW.trans {σ σ' σ'' : St} (h1 : ExW σ σ' l) (h2 : ExW σ' σ'' l) : ExW σ σ'' l :=
  ⟨fun i hi hl => (h2.t_wal_Log i hi (Nat.lt_of_lt_of_le hl h1.l128)).trans (h1.t_wal_Log i hi hl), Nat.le_trans h1.l128 h2.l128, fun j hj => (h2.t_wal_segment j (Nat.lt_of_lt_of_le hj h1.l130)).trans (h1.t_wal_segment j hj), Nat.le_trans h1.l130 h2.l130⟩
theorem ExW.of {σ' : St} (h1 : σ'.t_wal_Log = σ.t_wal_Log) (h2 : σ'.t_wal_segment = σ.t_wal_segment) : ExW σ σ' l := ⟨fun _ _ _ => by rw [h1], by rw [h1]; exact Nat.le_refl _, fun _ _ => by rw [h2], by rw [h2]; exact Nat.le_refl _⟩
theorem FrD.ex {σ' : St} (h : FrD σ σ' d n0) : ExW σ σ' l := ExW.of (congrArg (fun x => x.2.1) h.oth) (congrArg (fun x => x.2.2) h.oth)
theorem ExW.set (x : denFs fs_wal_Log) : ExW σ (σ.set1_wal_Log l x) l := by
  refine ⟨fun i hi hl => ?_, by simp [St.set1_wal_Log], fun _ _ => rfl, Nat.le_refl _⟩
  simp only [St.set1_wal_Log]
  rw [List.getElem?_set_ne (Ne.symm hi)]
theorem ExW.add (x : denFs fs_wal_segment) : ExW σ (σ.add_wal_segment x) l := by
  refine ⟨fun i hi hl => rfl, Nat.le_refl _, fun j hj => ?_, by simp [St.add_wal_segment]⟩
  simp only [St.add_wal_segment]
  rw [List.getElem?_append_left hj]
theorem Fw.trans {σ σ' σ'' : St} (h1 : Fw σ σ' d n0) (h2 : Fw σ' σ'' d n0) : Fw σ σ'' d n0 :=
  ⟨h2.up.trans h1.up, fun i hi hl => (h2.t_disk_Disk i hi (Nat.lt_of_lt_of_le hl h1.l105)).trans (h1.t_disk_Disk i hi hl), Nat.le_trans h1.l105 h2.l105, fun j hj => (h2.t_disk_file j hj).trans (h1.t_disk_file j hj), Nat.le_trans h1.l108 h2.l108⟩
theorem FrD.fw {σ σ' : St} (h : FrD σ σ' d n0) : Fw σ σ' d n0 := ⟨h.up, h.t_disk_Disk, h.l105, h.t_disk_file, h.l108⟩
theorem Fw.of {σ' : St} (h1 : σ'.up = σ.up) (h2 : σ'.t_disk_Disk = σ.t_disk_Disk) (h3 : σ'.t_disk_file = σ.t_disk_file) : Fw σ σ' d n0 :=
  ⟨h1, fun i _ _ => by rw [h2], by rw [h2]; exact Nat.le_refl _, fun i _ => by rw [h3], by rw [h3]; exact Nat.le_refl _⟩
theorem LG.put (h : LG σ l d most js segs safe) (n : Nat) : LG (σ.set1_wal_Log l (some d, nmL, most, js.map some, (n : Int), ())) l d most js segs n :=
  ⟨set1_wal_Log_get h.lo, h.nd, h.lie⟩

theorem LG.add (h : LG σ l d most js segs safe) (x : denFs fs_wal_segment) : LG (σ.add_wal_segment x) l d most js segs safe := by
  refine ⟨h.lo, h.nd, h.lie.imp2 (fun j hj g hg => ?_)⟩
  show (σ.t_wal_segment ++ [x])[j]? = _
  rw [List.getElem?_append_left (h.lt j hj)]; exact hg

theorem LG.link (h : LG σ l d most js segs safe) {j : Nat} {g : Sg} (hj : Lie σ j g) (hn : j ∉ js) : LG (σ.set1_wal_Log l (some d, nmL, most, js.map some ++ [some j], (safe : Int), ())) l d most (js ++ [j]) (segs ++ [g]) safe := by
  refine ⟨?_, ?_, ?_⟩
  · rw [List.map_append]; exact set1_wal_Log_get h.lo
  · rw [List.nodup_append]
    refine ⟨h.nd, by simp, fun a ha b hb e => ?_⟩
    simp only [List.mem_cons, List.not_mem_nil, or_false] at hb
    rw [e, hb] at ha
    exact hn ha
  · exact All2.app h.lie (show All2 _ [j] [g] from ⟨hj, trivial⟩)

theorem set130_add {x y : denFs fs_wal_segment} : (σ.add_wal_segment x).set1_wal_segment σ.t_wal_segment.length y = σ.add_wal_segment y := by
  unfold St.set1_wal_segment St.add_wal_segment
  simp

def lastLen (segs : List Sg) : Nat := match segs.getLast? with
  | none => 0
  | some g => g.2.length

theorem lastLen_app (pre : List Sg) (g : Sg) : lastLen (pre ++ [g]) = g.2.length := by simp [lastLen]

theorem Good.top12 (hg : Good segs) {g : Sg} (h : g ∈ segs) : g.1 ≤ 1099511627776 := by
  have := hg.top g h
  unfold sgN at this; omega

theorem firsts_apart {pre : List Sg} {g : Sg} (h : Chn none (pre ++ [g])) : ∀ f ∈ pre.map lgA, f.1 ≠ fileL g.1 := by
  intro f hf
  obtain ⟨a, ha, rfl⟩ := List.mem_map.1 hf
  have := (List.pairwise_append.1 h.rise).2.2 a ha g (by simp)
  intro e
  exact Nat.ne_of_lt this (fileL_inj e)

theorem last_find {L : List FR} {pre : List Sg} {g : Sg} {f : FR} (hL : L.Perm (pre.map lgA ++ [f])) (hf : f.1 = fileL g.1) (hs : SortL L) : findL (fileL g.1) L = some f :=
  findL_of hs (hL.mem_iff.2 (by simp)) hf

theorem last_set {L : List FR} {pre : List Sg} {g : Sg} {f f' : FR} (hL : L.Perm (pre.map lgA ++ [f])) (hf : f.1 = fileL g.1) (hf' : f'.1 = fileL g.1) (hc : Chn none (pre ++ [g])) : (setL f' false L).Perm (pre.map lgA ++ [f']) := by
  refine (setL_perm f' L).trans ?_
  rw [hf']
  have h1 := dropL_congr (s := fileL g.1) hL
  rw [dropL_append, dropL_self (firsts_apart hc), dropL_all (L := [f]) (fun x hx => by simp only [List.mem_cons, List.not_mem_nil, or_false] at hx; rw [hx]; exact hf), List.append_nil] at h1
  exact (List.Perm.cons f' h1).trans (List.perm_append_comm (l₁ := [f']))

theorem f61_eq (h : LG σ l d most js segs safe) (hD : DV σ d n0 A) (hA : OkA A) (hg : Good segs) (hlen : segs.length ≤ 1000000) (hL : DLs A.2.1 segs s) (hd : downA A = false) :
    ∃ σ' B e, f61 (some l) σ = some (e, σ') ∧ Fw σ σ' d n0 ∧ ExW σ σ' l ∧ B.1 = A.1 ∧ (armA0 A = 0 → armA0 B = 0) ∧ DV σ' d n0 B ∧ OkA B ∧
      ((e = 0 ∧ downA B = false ∧ LG σ' l d most js segs (nextS segs) ∧ DLs B.2.1 segs (lastLen segs)) ∨ (e = 11 ∧ downA B = true ∧ armA0 A ≠ 0 ∧ LG σ' l d most js segs safe ∧ DLs B.2.1 segs s)) := by
  rcases List.eq_nil_or_concat segs with rfl | ⟨pre, g, rfl⟩
  · obtain ⟨h1, h2⟩ := hL.inv0
    refine ⟨σ.set1_wal_Log l (some d, nmL, most, js.map some, ((nextS [] : Nat) : Int), ()), A, 0, ?_, Fw.of rfl rfl rfl, ExW.set _, rfl, id, hD.same rfl rfl, hA, .inl ⟨rfl, hd, h.put _, ?_⟩⟩
    · unfold f61
      have hlo := h.lo
      simp only [Option.isNone_some, Bool.false_eq_true, if_false, f97_none h, f55_eq h hg hlen, hlo, Option.bind_eq_bind, Option.bind_some]
      rw [if_neg (by simp)]
    · rw [h1]; exact .none rfl
  · rw [List.concat_eq_append] at *
    obtain ⟨hp, hs⟩ := hL.inv
    obtain ⟨jp, j, e, h1, h2⟩ := h.split
    have htop := hg.top12 (g := g) (by simp)
    obtain ⟨σ1, g1, g2, g3⟩ := f33_eq hD hA (fileL g.1)
    have hfd := last_find hp rfl hA.sorted
    have e0 : syncA A (fileL g.1) = writeA A (fun B => putA B (setL (safeF (fileL g.1) (lgF g s)) false B.2.1)) := by
      unfold syncA someA
      rw [if_neg (by rw [show A.2.2.2.1 = false from hd]; decide), hfd]
    have hsf : safeF (fileL g.1) (lgF g s) = lgF g g.2.length := by
      rw [lgF_all]
      unfold safeF lgA
      rw [lgF_bytes g hs]
    have hlo := h.lo
    have e1 : f61 (some l) σ = some (if (syncA A (fileL g.1)).1 = 0 then (0, σ1.set1_wal_Log l (some d, nmL, most, js.map some, ((nextS (pre ++ [g]) : Nat) : Int), ())) else ((syncA A (fileL g.1)).1, σ1)) := by
      have h' := h.same g3.oth
      have hlo' := h'.lo
      unfold f61
      simp only [Option.isNone_some, Bool.false_eq_true, if_false, f97_last h (by simp at hlen; omega) e, hlo, f98_lie h h2 htop, g1, Option.bind_eq_bind, Option.bind_some, Bool.not_false, if_true]
      by_cases c : (syncA A (fileL g.1)).1 = 0
      · rw [if_neg (by simp [c]), if_pos c, f55_eq h' hg hlen]
        simp only [Option.bind_some, hlo']
      · rw [if_pos (by simpa using c), if_neg c]
    obtain ⟨B, b1, b2, b3, b4, ⟨b5, b6⟩ | ⟨b5, b6, b7⟩⟩ := write_cases hA hd (fun B => putA B (setL (safeF (fileL g.1) (lgF g s)) false B.2.1))
    · rw [e0, b6] at g2 e1
      refine ⟨σ1.set1_wal_Log l (some d, nmL, most, js.map some, ((nextS (pre ++ [g]) : Nat) : Int), ()), putA B (setL (safeF (fileL g.1) (lgF g s)) false B.2.1), 0, by rw [e1]; rfl, g3.fw.trans (Fw.of rfl rfl rfl), g3.ex.trans (ExW.set _), b1, b4, g2.same rfl rfl, ?_, .inl ⟨rfl, b5, (h.same g3.oth).put _, ?_⟩⟩
      · refine b3.put (f := lgF g s) (s := fileL g.1) (by rw [b2]; exact hfd) rfl ?_
        simp [fsize, safeF]
      · show DLs (setL (safeF (fileL g.1) (lgF g s)) false B.2.1) (pre ++ [g]) (lastLen (pre ++ [g]))
        rw [b2, hsf, lastLen_app]
        exact .some (last_set hp rfl rfl hg.chain) (Nat.le_refl _)
    · rw [e0, b7] at g2 e1
      exact ⟨σ1, B, 11, by rw [e1]; rfl, g3.fw, g3.ex, b1, b4, g2, b3, .inr ⟨rfl, b5, b6, h.same g3.oth, by rw [b2]; exact .some hp hs⟩⟩

theorem f115_eq (h : LG σ l d most js segs safe) (hD : DV σ d n0 A) (hA : OkA A) {g : Sg} {t : List UInt8} (hr : readA A (fileL g.1) = (sgB g ++ t, 0)) (ht : Torn (sgN g) t) (hx : ∀ x ∈ g.2, OkR x) (hn : sgN g ≤ 1000000) :
    f115 (some l) (g.1 : Int) σ = some ((some σ.t_wal_segment.length, (t.length : Int), 0), σ.add_wal_segment ((g.1 : Int), g.2, ((sgB g).length : Int), ())) := by
  unfold sgN at hn ht
  have h1 := h.add ((g.1 : Int), [], 0, ())
  obtain ⟨o, qs, hq⟩ := hD
  have e28 := f28_eq (hq.same (σ' := σ.add_wal_segment ((g.1 : Int), [], 0, ())) rfl rfl) hA (fileL g.1)
  have e98 := f98_eq (g := 0) h1 (j := σ.t_wal_segment.length) got_wal_segment (n := g.1) rfl (by omega)
  have hl := hA.each
  have hlen : (sgB g ++ t).length ≤ 65536 := by
    unfold readA at hr
    split at hr
    · simp at hr
    · split at hr
      · simp at hr
      · rename_i f hf
        simp only [Prod.mk.injEq, and_true] at hr
        have := hA.each f (findL_some hf).1
        unfold fsize at this
        rw [← hr]; simp only [List.length_append]; omega
  have e49 := f49_eq (s := sgB g ++ t) (f := g.1) (recs := g.2) (t := t) (by omega) rfl (by unfold OkN; omega) hx ht
  have hlo : (σ.add_wal_segment ((g.1 : Int), [], 0, ())).t_wal_Log[l]? = some (some d, nmL, most, js.map some, (safe : Int), ()) := h1.lo
  unfold f115
  simp only [hlo, e98, e28, hr, Option.bind_eq_bind, Option.bind_some]
  rw [if_neg (by simp), e49]
  simp only [Option.bind_some]
  rw [set130_add, set130_add]
  have hw : IntKind.wrap .i64 (((sgB g ++ t).length : Int) - ((segB g.1 g.2).length : Int)) = (t.length : Int) := by
    have : (sgB g ++ t).length = (segB g.1 g.2).length + t.length := by rw [List.length_append]; rfl
    rw [this, wrap_id (by omega) (by omega)]; omega
  rw [hw]
  rfl

theorem f96_step (done : List Sg) (r3 : List Int) (x7 x8 : Int) (h : LG σ l d most js done safe) (hD : DV σ d n0 A) (hA : OkA A) {g : Sg} {t : List UInt8} (hi : r3[done.length]? = some (g.1 : Int)) (h7 : done ≠ [] → x7 = 0 ∧ nextS done = g.1) (hgd : Good done) (hdl : done.length ≤ 1000)
    (hr : readA A (fileL g.1) = (sgB g ++ t, 0)) (ht : Torn (sgN g) t) (hx : ∀ x ∈ g.2, OkR x) (hn : sgN g ≤ 1000000) :
    ∃ σ', f96_l0 (some l) r3 x7 x8 ((done.length : Nat) : Int) σ = f96_l0 (some l) r3 (t.length : Int) (((done ++ [g]).length : Nat) : Int) (((done ++ [g]).length : Nat) : Int) σ' ∧ LG σ' l d most (js ++ [σ.t_wal_segment.length]) (done ++ [g]) safe ∧ σ'.t_disk_Disk = σ.t_disk_Disk ∧ σ'.t_disk_file = σ.t_disk_file ∧ σ'.up = σ.up ∧ ExW σ σ' l := by
  have hlt := (List.getElem?_eq_some_iff.1 hi).1
  have hget := (List.getElem?_eq_some_iff.1 hi).2
  have e115 := f115_eq h hD hA hr ht hx hn
  have h1 := h.add ((g.1 : Int), g.2, ((sgB g).length : Int), ())
  have hnj : σ.t_wal_segment.length ∉ js := fun hm => by have := h.lt _ hm; omega
  have h2 := h1.link (j := σ.t_wal_segment.length) (g := g) got_wal_segment hnj
  have hjl := All2.len h.lie
  have hlo : (σ.add_wal_segment ((g.1 : Int), g.2, ((sgB g).length : Int), ())).t_wal_Log[l]? = some (some d, nmL, most, js.map some, (safe : Int), ()) := h1.lo
  have hw : IntKind.wrap .i64 ((done.length : Int) + 1) = (((done ++ [g]).length : Nat) : Int) := by rw [wrap_id (by omega) (by omega)]; simp
  refine ⟨_, ?_, h2, rfl, rfl, rfl, (ExW.add _).trans (ExW.set _)⟩
  conv => lhs; rw [f96_l0]
  rw [if_pos (by simp; omega), ix_at hlt, hget]
  simp only [Option.bind_eq_bind, Option.bind_some]
  by_cases c : done = []
  · subst c
    rw [if_neg (by simp), e115]
    simp only [Option.bind_some]
    rw [if_neg (by simp)]
    simp only [Option.bind_some, hlo, hw]
    rw [if_pos (by rw [List.length_map]; omega)]
  · obtain ⟨h3, h4⟩ := h7 c
    subst h3
    have hpos : 0 < done.length := List.length_pos_iff.2 c
    rw [if_pos (by simp; omega), if_neg (by simp), f55_eq h hgd (by omega), h4]
    simp only [Option.bind_some]
    rw [if_neg (by simp), e115]
    simp only [Option.bind_some]
    rw [if_neg (by simp)]
    simp only [Option.bind_some, hlo, hw]
    rw [if_pos (by rw [List.length_map]; omega)]
end
end Go.Proofs.YtbnmhjobnepajaaGreat.M


namespace Go.Proofs.YtbnmhjobnepajaaGreat.M

theorem Chn.pref : ∀ {a b : List Sg} {e : Option Nat}, Chn e (a ++ b) → Chn e a
  | [], _, _, _ => trivial
  | g :: a, b, e, h => by
    obtain ⟨h1, h2, h3⟩ := h
    refine ⟨h1, fun hn => h2 (fun he => hn ?_), Chn.pref h3⟩
    exact (List.append_eq_nil_iff.1 he).1

theorem Chn.next : ∀ {pre : List Sg} {b a : Sg} {r : List Sg} {e : Option Nat}, Chn e (pre ++ [b] ++ a :: r) → sgN b = a.1
  | [], b, a, r, e, h => by
    obtain ⟨h1, h2, h3⟩ := h
    exact (h3.1 _ rfl).symm
  | c :: pre, b, a, r, e, h => Chn.next (pre := pre) h.2.2

theorem Good.pref {a b : List Sg} (h : Good (a ++ b)) : Good a :=
  ⟨h.chain.pref, fun g hg => h.recs g (List.mem_append.2 (.inl hg)), fun g hg => h.top g (List.mem_append.2 (.inl hg))⟩

def tornF (g : Sg) (t : List UInt8) : FR := (fileL g.1, sgB g ++ t, [], ())

section
variable {σ : St} {l d n0 : Nat} {most : Int} {js : List Nat} {segs : List Sg} {safe s : Nat} {A : AD}

theorem f96_loads {g : Sg} {t : List UInt8} (ht : Torn (sgN g) t) (hA : OkA A) : ∀ (mid done : List Sg) (js : List Nat) (σ : St) (x7 x8 : Int), LG σ l d most js done safe → DV σ d n0 A → (done ≠ [] → x7 = 0) → Good (done ++ (mid ++ [g])) → (done ++ (mid ++ [g])).length ≤ 1000 →
    (∀ a ∈ mid, readA A (fileL a.1) = (sgB a, 0)) → readA A (fileL g.1) = (sgB g ++ t, 0) →
    ∃ σ' js', f96_l0 (some l) (firsts (done ++ (mid ++ [g]))) x7 x8 ((done.length : Nat) : Int) σ = some (.inl ((t.length : Int), (((done ++ (mid ++ [g])).length : Nat) : Int), (((done ++ (mid ++ [g])).length : Nat) : Int), σ')) ∧ LG σ' l d most js' (done ++ (mid ++ [g])) safe ∧ σ'.t_disk_Disk = σ.t_disk_Disk ∧ σ'.t_disk_file = σ.t_disk_file ∧ σ'.up = σ.up ∧ ExW σ σ' l
  | [], done, js, σ, x7, x8, h, hD, h7, hg, hlen, hm, hr => by
    rw [List.nil_append] at *
    have hgm : g ∈ done ++ [g] := by simp
    obtain ⟨σ', e, h1, h2, h3, h4, h5⟩ := f96_step (t := t) done (firsts (done ++ [g])) x7 x8 h hD hA (g := g) (by simp [firsts]) (fun hn => ⟨h7 hn, by
      rcases List.eq_nil_or_concat done with rfl | ⟨pre, b, rfl⟩
      · exact absurd rfl hn
      · rw [List.concat_eq_append] at *
        rw [nextS_app]; exact hg.chain.next⟩) hg.pref (by simp at hlen; omega) hr ht (hg.recs g hgm) (hg.top g hgm)
    refine ⟨σ', _, ?_, h1, h2, h3, h4, h5⟩
    rw [e, f96_l0]
    rw [if_neg (by simp [firsts])]
  | a :: mid, done, js, σ, x7, x8, h, hD, h7, hg, hlen, hm, hr => by
    have ham : a ∈ done ++ (a :: mid ++ [g]) := by simp
    have hgood : Good done := hg.pref
    have hr1 : readA A (fileL a.1) = (sgB a ++ [], 0) := by rw [List.append_nil]; exact hm a List.mem_cons_self
    obtain ⟨σ1, e, h1, h2, h3, h4, h5⟩ := f96_step (t := []) done (firsts (done ++ (a :: mid ++ [g]))) x7 x8 h hD hA (g := a) (by simp [firsts]) (fun hn => ⟨h7 hn, by
      rcases List.eq_nil_or_concat done with rfl | ⟨pre, b, rfl⟩
      · exact absurd rfl hn
      · rw [List.concat_eq_append] at *
        rw [nextS_app]; exact hg.chain.next⟩) hgood (by simp at hlen; omega) hr1 (Torn.nil _) (hg.recs a ham) (hg.top a ham)
    have ea : done ++ (a :: mid ++ [g]) = (done ++ [a]) ++ (mid ++ [g]) := by simp
    rw [ea] at e hg hlen ⊢
    obtain ⟨σ', js', i1, i2, i3, i4, i5, i6⟩ := f96_loads ht hA mid (done ++ [a]) _ σ1 0 (((done ++ [a]).length : Nat) : Int) h1 (hD.same h2 h3) (fun _ => rfl) hg hlen (fun x hx => hm x (List.mem_cons_of_mem _ hx)) hr
    refine ⟨σ', js', ?_, i2, i3.trans h2, i4.trans h3, i5.trans h4, h5.trans i6⟩
    rw [e]; exact i1

theorem f96_l1_end {p0 : Option Nat} {r3 : List Int} {z : Int × Int × Int × St} {o : denFs fs_wal_Log} {x : Int} (h : x < z.2.1) : f96_l1 p0 r3 z o x σ = some (.inl (x, σ)) := by
  rw [f96_l1]
  rw [if_neg (by simp; omega)]

theorem torn_reads {L : List FR} {pre : List Sg} {g : Sg} {t : List UInt8} (hp : A.2.1.Perm (pre.map lgA ++ [tornF g t])) (hA : OkA A) (hd : downA A = false) :
    (∀ a ∈ pre, readA A (fileL a.1) = (sgB a, 0)) ∧ readA A (fileL g.1) = (sgB g ++ t, 0) := by
  have hdd : A.2.2.2.1 = false := hd
  refine ⟨fun a ha => ?_, ?_⟩
  · have hf : findL (fileL a.1) A.2.1 = some (lgA a) := findL_of hA.sorted (hp.mem_iff.2 (List.mem_append.2 (.inl (List.mem_map.2 ⟨a, ha, rfl⟩)))) rfl
    unfold readA
    rw [if_neg (by rw [hdd]; decide), hf]
    simp [lgA]
  · have hf : findL (fileL g.1) A.2.1 = some (tornF g t) := findL_of hA.sorted (hp.mem_iff.2 (by simp)) rfl
    unfold readA
    rw [if_neg (by rw [hdd]; decide), hf]
    simp [tornF]

theorem f96_eq {pre : List Sg} {g : Sg} {t : List UInt8} (h : LG σ l d most [] [] 0) (hD : DV σ d n0 A) (hA : OkA A) (hd : downA A = false) (h0 : armA0 A = 0) (hg : Good (pre ++ [g])) (hlen : (pre ++ [g]).length ≤ 1000) (ht : Torn (sgN g) t) (hp : A.2.1.Perm (pre.map lgA ++ [tornF g t])) :
    ∃ σ' B js', f96 (some l) σ = some (0, σ') ∧ Fw σ σ' d n0 ∧ ExW σ σ' l ∧ B.1 = A.1 ∧ armA0 B = 0 ∧ downA B = false ∧ DV σ' d n0 B ∧ OkA B ∧ LG σ' l d most js' (pre ++ [g]) (nextS (pre ++ [g])) ∧ DLs B.2.1 (pre ++ [g]) (lastLen (pre ++ [g])) := by
  have hlo := h.lo
  obtain ⟨r1, r2⟩ := torn_reads (L := []) hp hA hd
  have e114 := f114_eq (o := (some d, nmL, most, ([] : List Nat).map some, (((0 : Nat) : Nat) : Int), ())) hlo rfl rfl hD hA (segs := pre ++ [g]) (by
    refine (hp.map _).trans ?_
    rw [List.map_append, List.map_append, List.map_map]
    exact List.Perm.refl _) hg
  obtain ⟨σ1, js1, i1, i2, i3, i4, i5, i6⟩ := f96_loads ht hA pre [] [] σ 0 0 h hD (by simp) hg hlen r1 r2
  rw [List.nil_append] at i1 i2
  have i1' : f96_l0 (some l) (firsts (pre ++ [g])) 0 0 0 σ = some (.inl ((t.length : Int), (((pre ++ [g]).length : Nat) : Int), (((pre ++ [g]).length : Nat) : Int), σ1)) := i1
  have hlo1 := i2.lo
  have hD1 : DV σ1 d n0 A := hD.same i3 i4
  have hfw1 : Fw σ σ1 d n0 := Fw.of i5 i3 i4
  obtain ⟨jp, j, ej, l1, l2⟩ := i2.split
  have htop := hg.top12 (g := g) (by simp)
  have hlB := hg.lenB (g := g) (by simp)
  have hl1 : IntKind.wrap .i64 (((firsts (pre ++ [g])).length : Int) - 1) = ((pre.length : Nat) : Int) := by
    simp only [firsts, List.length_map, List.length_append, List.length_cons, List.length_nil] at hlen ⊢
    rw [wrap_id (by omega) (by omega)]; omega
  have hw1 : IntKind.wrap .i64 ((((pre ++ [g]).length : Nat) : Int) - 1) = ((pre.length : Nat) : Int) := by
    simp only [List.length_append, List.length_cons, List.length_nil] at hlen ⊢
    rw [wrap_id (by omega) (by omega)]; omega
  have hjl : jp.length = pre.length := All2.len l1
  have hix : ix (js1.map some) ((pre.length : Nat) : Int) = some (some j) := by
    rw [ej, ← hjl]
    have hi : jp.length < ((jp ++ [j]).map some).length := by simp
    rw [ix_at hi]; simp
  have common : f96 (some l) σ = (if (decide ((t.length : Int) > 0)) = true then
      f98 (some l) (some j) σ1 >>= fun r79 => (σ1.t_wal_segment[j]?) >>= fun o81 => f35 (some d) r79 o81.2.2.1 σ1 >>= fun r82 => if (r82.1 != 0) = true then some (r82.1, r82.2) else f61 (some l) r82.2 >>= fun r86 => some (r86.1, r86.2)
    else f61 (some l) σ1 >>= fun r88 => some (r88.1, r88.2)) := by
    unfold f96
    rw [e114]
    simp only [Option.bind_eq_bind, Option.bind_some]
    rw [i1']
    simp only [Option.bind_some, hlo1]
    rw [hl1, f96_l1_end (by simp; omega)]
    simp only [Option.bind_some, hlo1]
    rw [if_neg (by simp; omega), hw1, hix]
    rfl
  -- torn or not: the files are whole then
  have fin : ∀ (σ2 : St) (A2 : AD), LG σ2 l d most js1 (pre ++ [g]) 0 → DV σ2 d n0 A2 → OkA A2 → downA A2 = false → armA0 A2 = 0 → A2.2.1.Perm (pre.map lgA ++ [lgA g]) → A2.1 = A.1 → Fw σ σ2 d n0 → ExW σ σ2 l →
      ∃ σ' B, f61 (some l) σ2 = some (0, σ') ∧ Fw σ σ' d n0 ∧ ExW σ σ' l ∧ B.1 = A.1 ∧ armA0 B = 0 ∧ downA B = false ∧ DV σ' d n0 B ∧ OkA B ∧ LG σ' l d most js1 (pre ++ [g]) (nextS (pre ++ [g])) ∧ DLs B.2.1 (pre ++ [g]) (lastLen (pre ++ [g])) := by
    intro σ2 A2 k1 k2 k3 k4 k5 k6 k7 k8 k9
    have hdl : DLs A2.2.1 (pre ++ [g]) g.2.length := .some (by rw [lgF_all]; exact k6) (Nat.le_refl _)
    obtain ⟨σ', B, e, f1, f2, f2x, f3, f4, f5, f6, ⟨rfl, f7, f8, f9⟩ | ⟨_, _, f7, _⟩⟩ := f61_eq k1 k2 k3 hg (by omega) hdl k4
    · exact ⟨σ', B, f1, k8.trans f2, k9.trans f2x, f3.trans k7, f4 k5, f7, f5, f6, f8, f9⟩
    · exact absurd k5 f7
  by_cases c : t = []
  · subst c
    obtain ⟨σ', B, f1, f2⟩ := fin σ1 A i2 hD1 hA hd h0 (by
      have : tornF g [] = lgA g := by simp [tornF, lgA]
      rw [← this]; exact hp) rfl hfw1 i6
    refine ⟨σ', B, js1, ?_, f2⟩
    rw [common, if_neg (by simp), f1]
    rfl
  · have hpos : 0 < t.length := List.length_pos_iff.2 c
    obtain ⟨σ2, g1, g2, g3⟩ := f35_eq hD1 hA (fileL g.1) ((sgB g).length : Int)
    have hfd := last_find hp rfl hA.sorted
    have e0 : truncA A (fileL g.1) ((sgB g).length : Int) = writeA A (fun B => putA B (setL (cutF (fileL g.1) (tornF g t) (sgB g).length) false B.2.1)) := by
      unfold truncA someA
      rw [if_neg (by rw [show A.2.2.2.1 = false from hd]; decide), hfd]
      simp only []
      have hsz : fsize (tornF g t) = (sgB g).length + t.length := by simp [fsize, tornF]
      rw [if_neg (by rw [hsz]; omega)]
      have : Int.toNat ((sgB g).length : Int) = (sgB g).length := by omega
      rw [this]
    have hcut : cutF (fileL g.1) (tornF g t) (sgB g).length = lgA g := by
      unfold cutF tornF lgA
      rw [if_pos (by simp)]
      simp
    obtain ⟨B, b1, b2, b3, b4, ⟨b5, b6⟩ | ⟨b5, b6, b7⟩⟩ := write_cases hA hd (fun B => putA B (setL (cutF (fileL g.1) (tornF g t) (sgB g).length) false B.2.1))
    case inr => exact absurd h0 b6
    rw [e0, b6] at g1 g2
    have hok : OkA (putA B (setL (cutF (fileL g.1) (tornF g t) (sgB g).length) false B.2.1)) := by
      refine b3.put (f := tornF g t) (s := fileL g.1) (by rw [b2]; exact hfd) (by rw [hcut]; rfl) ?_
      rw [hcut]; simp [fsize, lgA, tornF]
    obtain ⟨σ', B2, f1, f2⟩ := fin σ2 _ (i2.same g3.oth) g2 hok b5 (b4 h0) (by
      show (setL (cutF (fileL g.1) (tornF g t) (sgB g).length) false B.2.1).Perm _
      rw [b2, hcut]
      exact last_set hp rfl rfl hg.chain) b1 (hfw1.trans g3.fw) (i6.trans g3.ex)
    refine ⟨σ', B2, js1, ?_, f2⟩
    rw [common, if_pos (by simpa using hpos), f98_lie i2 l2 htop]
    simp only [Option.bind_eq_bind, Option.bind_some, l2]
    rw [g1]
    simp only [Option.bind_some]
    rw [if_neg (by simp), f1]
    rfl

theorem f96_none (h : LG σ l d most [] [] 0) (hD : DV σ d n0 A) (hA : OkA A) (hL : A.2.1 = []) : f96 (some l) σ = some (0, σ) := by
  have hlo := h.lo
  have e114 := f114_eq (o := (some d, nmL, most, ([] : List Nat).map some, (((0 : Nat) : Nat) : Int), ())) hlo rfl rfl hD hA (segs := []) (by rw [hL]; exact List.Perm.refl _) ⟨trivial, by simp, by simp⟩
  unfold f96
  rw [e114]
  simp only [Option.bind_eq_bind, Option.bind_some]
  have e1 : f96_l0 (some l) (firsts []) 0 0 0 σ = some (.inl (0, 0, 0, σ)) := by
    rw [f96_l0]
    rw [if_neg (by simp [firsts])]
  rw [e1]
  simp only [Option.bind_some, hlo]
  rw [f96_l1_end (by simp [firsts]; decide)]
  simp

theorem f53_is (hD : DV σ d n0 A) (hd : downA A = false) (h1 : 64 ≤ most) (h2 : most ≤ 65536) : f53 (some d) nmL most σ = f96 (some σ.t_wal_Log.length) (σ.add_wal_Log (some d, nmL, most, [], 0, ())) >>= fun r15 => if (r15.1 != 0) = true then some ((none, r15.1), r15.2) else some ((some σ.t_wal_Log.length, 0), r15.2) := by
  obtain ⟨o, qs, hq⟩ := hD
  unfold f53
  simp only [Option.isNone_some, Bool.false_eq_true, if_false, f95_log, f31_eq hq, show A.2.2.2.1 = false from hd, Option.bind_eq_bind, Option.bind_some]
  rw [if_neg (by simp; omega)]

theorem LG.new (σ : St) (d : Nat) (most : Int) : LG (σ.add_wal_Log (some d, nmL, most, [], 0, ())) σ.t_wal_Log.length d most [] [] 0 :=
  ⟨got_wal_Log, List.nodup_nil, trivial⟩

theorem ExW.add_wal_Log (x : denFs fs_wal_Log) : ExW σ (σ.add_wal_Log x) σ.t_wal_Log.length := by
  refine ⟨fun i hi hl => ?_, by simp [St.add_wal_Log], fun _ _ => rfl, Nat.le_refl _⟩
  simp only [St.add_wal_Log]
  rw [List.getElem?_append_left hl]

theorem open_none (hD : DV σ d n0 A) (hA : OkA A) (hd : downA A = false) (hL : A.2.1 = []) (h1 : 64 ≤ most) (h2 : most ≤ 65536) :
    ∃ σ', f53 (some d) nmL most σ = some ((some σ.t_wal_Log.length, 0), σ') ∧ Fw σ σ' d n0 ∧ ExW σ σ' σ.t_wal_Log.length ∧ DV σ' d n0 A ∧ LG σ' σ.t_wal_Log.length d most [] [] 0 := by
  refine ⟨σ.add_wal_Log (some d, nmL, most, [], 0, ()), ?_, Fw.of rfl rfl rfl, ExW.add_wal_Log _, hD.same rfl rfl, LG.new σ d most⟩
  rw [f53_is hD hd h1 h2, f96_none (LG.new σ d most) (hD.same rfl rfl) hA hL]
  rfl

theorem open_some {pre : List Sg} {g : Sg} {t : List UInt8} (hD : DV σ d n0 A) (hA : OkA A) (hd : downA A = false) (h0 : armA0 A = 0) (hg : Good (pre ++ [g])) (hlen : (pre ++ [g]).length ≤ 1000) (ht : Torn (sgN g) t) (hp : A.2.1.Perm (pre.map lgA ++ [tornF g t])) (h1 : 64 ≤ most) (h2 : most ≤ 65536) :
    ∃ σ' B js', f53 (some d) nmL most σ = some ((some σ.t_wal_Log.length, 0), σ') ∧ Fw σ σ' d n0 ∧ ExW σ σ' σ.t_wal_Log.length ∧ B.1 = A.1 ∧ armA0 B = 0 ∧ downA B = false ∧ DV σ' d n0 B ∧ OkA B ∧ LG σ' σ.t_wal_Log.length d most js' (pre ++ [g]) (nextS (pre ++ [g])) ∧ DLs B.2.1 (pre ++ [g]) (lastLen (pre ++ [g])) := by
  obtain ⟨σ', B, js', e, f1, f1x, f2⟩ := f96_eq (LG.new σ d most) (hD.same rfl rfl) hA hd h0 hg hlen ht hp
  refine ⟨σ', B, js', ?_, (Fw.of rfl rfl rfl : Fw σ (σ.add_wal_Log (some d, nmL, most, [], 0, ())) d n0).trans f1, (ExW.add_wal_Log _).trans f1x, f2⟩
  rw [f53_is hD hd h1 h2, e]
  rfl
end
end Go.Proofs.YtbnmhjobnepajaaGreat.M


namespace Go.Proofs.YtbnmhjobnepajaaGreat.M

def safeOf (segs : List Sg) (s : Nat) : Nat := match segs.getLast? with
  | none => 0
  | some g => g.1 + s
theorem safeOf_app (pre : List Sg) (g : Sg) (s : Nat) : safeOf (pre ++ [g]) s = g.1 + s := by simp [safeOf]
theorem safeOf_all (segs : List Sg) : safeOf segs (lastLen segs) = nextS segs := by
  rcases List.eq_nil_or_concat segs with rfl | ⟨pre, g, rfl⟩
  · rfl
  · rw [List.concat_eq_append, safeOf_app, lastLen_app, nextS_app]; rfl

inductive More : List Sg → List UInt8 → List Sg → Prop
  | fresh {segs : List Sg} {x : List UInt8} : (segs = [] ∨ 0 < lastLen segs) → More segs x (segs ++ [(nextS segs, [x])])
  | same {pre : List Sg} {g : Sg} {x : List UInt8} : More (pre ++ [g]) x (pre ++ [(g.1, g.2 ++ [x])])

theorem More.next {segs segs' : List Sg} {x : List UInt8} (h : More segs x segs') : nextS segs' = nextS segs + 1 := by
  cases h with
  | fresh h => rw [nextS_app]; rfl
  | same => rw [nextS_app, nextS_app]; unfold sgN; simp only [List.length_append, List.length_cons, List.length_nil]; omega

theorem More.len {segs segs' : List Sg} {x : List UInt8} (h : More segs x segs') : segs'.length ≤ segs.length + 1 ∧ segs' ≠ [] := by
  cases h with
  | fresh h => simp
  | same => simp

theorem More.good {segs segs' : List Sg} {x : List UInt8} (h : More segs x segs') (hg : Good segs) (hx : OkR x) (hn : nextS segs + 1 ≤ 1000000) : Good segs' := by
  cases h with
  | @fresh segs x h =>
    refine ⟨?_, ?_, ?_⟩
    · rcases List.eq_nil_or_concat segs with rfl | ⟨pre, g, rfl⟩
      · exact ⟨by simp, by simp, trivial⟩
      · rw [List.concat_eq_append] at *
        refine hg.chain.snoc (by rw [nextS_app]) ?_
        rcases h with h | h
        · simp at h
        · rwa [lastLen_app] at h
    · intro a ha
      rcases List.mem_append.1 ha with ha | ha
      · exact hg.recs a ha
      · simp only [List.mem_cons, List.not_mem_nil, or_false] at ha
        subst ha
        intro y hy
        simp only [List.mem_cons, List.not_mem_nil, or_false] at hy
        rw [hy]; exact hx
    · intro a ha
      rcases List.mem_append.1 ha with ha | ha
      · exact hg.top a ha
      · simp only [List.mem_cons, List.not_mem_nil, or_false] at ha
        subst ha
        unfold sgN
        simp only [List.length_cons, List.length_nil]; omega
  | @same pre g x =>
    have hgm : g ∈ pre ++ [g] := by simp
    refine ⟨hg.chain.last rfl, ?_, ?_⟩
    · intro a ha
      rcases List.mem_append.1 ha with ha | ha
      · exact hg.recs a (List.mem_append.2 (.inl ha))
      · simp only [List.mem_cons, List.not_mem_nil, or_false] at ha
        subst ha
        intro y hy
        rcases List.mem_append.1 hy with hy | hy
        · exact hg.recs g hgm y hy
        · simp only [List.mem_cons, List.not_mem_nil, or_false] at hy
          rw [hy]; exact hx
    · intro a ha
      rcases List.mem_append.1 ha with ha | ha
      · exact hg.top a (List.mem_append.2 (.inl ha))
      · simp only [List.mem_cons, List.not_mem_nil, or_false] at ha
        subst ha
        rw [nextS_app] at hn
        unfold sgN at *
        simp only [List.length_append, List.length_cons, List.length_nil]; omega

section
variable {σ : St} {l d n0 : Nat} {most : Int} {js : List Nat} {segs : List Sg} {safe s : Nat} {A : AD}

structure WS (σ : St) (l d n0 : Nat) (most : Int) (A : AD) (js : List Nat) (segs : List Sg) (safe s : Nat) : Prop where
  lg : LG σ l d most js segs safe
  dv : DV σ d n0 A
  ok : OkA A
  dl : DLs A.2.1 segs s
  good : Good segs
  len : segs.length ≤ 900
  sf : safe = safeOf segs s

theorem fileL_new (hg : Good segs) (hne : segs = [] ∨ 0 < lastLen segs) : ∀ g ∈ segs, g.1 ≠ nextS segs := by
  rcases List.eq_nil_or_concat segs with rfl | ⟨pre, g, rfl⟩
  · simp
  · rw [List.concat_eq_append] at *
    rw [nextS_app]
    have hpos : 0 < g.2.length := by
      rcases hne with h | h
      · simp at h
      · rwa [lastLen_app] at h
    intro a ha
    rcases List.mem_append.1 ha with ha | ha
    · have := (List.pairwise_append.1 hg.chain.rise).2.2 a ha g (by simp)
      unfold sgN; omega
    · simp only [List.mem_cons, List.not_mem_nil, or_false] at ha
      subst ha
      unfold sgN; omega

theorem DLs.all {L : List FR} (h : DLs L segs (lastLen segs)) : L.Perm (segs.map lgA) := by
  rcases List.eq_nil_or_concat segs with rfl | ⟨pre, g, rfl⟩
  · rw [(h.inv0).1]; exact List.Perm.refl _
  · rw [List.concat_eq_append] at *
    have := h.inv.1
    rw [lastLen_app, lgF_all] at this
    rw [List.map_append]; exact this

theorem set_new {L : List FR} {f : FR} (hL : L.Perm (segs.map lgA)) (hf : ∀ g ∈ segs, fileL g.1 ≠ f.1) : findL f.1 L = none ∧ (setL f false L).Perm (segs.map lgA ++ [f]) := by
  have hno : findL f.1 L = none := findL_no (fun a ha => by
    obtain ⟨g, hg, rfl⟩ := List.mem_map.1 (hL.mem_iff.1 ha)
    exact hf g hg)
  refine ⟨hno, ?_⟩
  refine (setL_perm f L).trans ?_
  rw [dropL_none hno]
  exact (List.Perm.cons f hL).trans (List.perm_append_comm (l₁ := [f]))

def szR (l : List (List UInt8)) : Nat := (l.map (fun x => 24 + x.length)).sum
def szS (segs : List Sg) : Nat := (segs.map (fun g => szR g.2)).sum

theorem recB_le {n : Nat} {x : List UInt8} (hn : OkN n) (hx : OkR x) : (recB n x).length ≤ 24 + x.length := by
  have h0 := numV_len (n := n) (by unfold OkN at hn; omega)
  have h1 := recT_len hn hx
  have h2 := numV_len (n := (recT n x).length) (by omega)
  have h3 : (recT n x).length = (numV n).length + x.length + 4 := by unfold recT; rw [sealS_len, List.length_append]
  unfold recB
  rw [List.length_append]; omega

theorem segB_le : ∀ (n : Nat) (l : List (List UInt8)), OkN (n + l.length) → (∀ x ∈ l, OkR x) → (segB n l).length ≤ szR l
  | n, [], _, _ => by simp [segB]
  | n, x :: r, hn, hx => by
    have hn' : n + (r.length + 1) < 4611686018427387904 := hn
    have h1 := recB_le (n := n) (x := x) (by unfold OkN; omega) (hx x List.mem_cons_self)
    have h2 := segB_le (n + 1) r (by unfold OkN; omega) (fun y hy => hx y (List.mem_cons_of_mem _ hy))
    unfold szR at h2 ⊢
    simp only [segB, List.length_append, List.map_cons, List.sum_cons]
    omega

theorem DLs.used {L : List FR} (h : DLs L segs s) (hg : Good segs) : usedL L ≤ szS segs := by
  have each : ∀ g ∈ segs, (sgB g).length ≤ szR g.2 := by
    intro g hgm
    have := hg.top g hgm
    unfold sgN at this
    exact segB_le g.1 g.2 (by unfold OkN; omega) (hg.recs g hgm)
  have all : ∀ r : List Sg, (∀ g ∈ r, g ∈ segs) → usedL (r.map lgA) ≤ szS r := by
    intro r
    induction r with
    | nil => intro _; simp [usedL]
    | cons g r ih =>
      intro hr
      have h1 := each g (hr g List.mem_cons_self)
      have h2 := ih (fun x hx => hr x (List.mem_cons_of_mem _ hx))
      unfold szS at h2 ⊢
      simp only [List.map_cons, usedL, List.sum_cons, fsize, lgA, List.length_nil]
      omega
  rcases List.eq_nil_or_concat segs with rfl | ⟨pre, g, rfl⟩
  · rw [(h.inv0).1]; simp [usedL]
  · rw [List.concat_eq_append] at *
    obtain ⟨hp, hs⟩ := h.inv
    rw [usedL_perm hp, usedL_append]
    have h1 := all pre (fun x hx => List.mem_append.2 (.inl hx))
    have h2 := each g (by simp)
    have h3 : usedL [lgF g s] = (sgB g).length := by
      have := congrArg List.length (lgF_bytes g hs)
      rw [List.length_append] at this
      simp only [usedL, fsize]; omega
    unfold szS at h1 ⊢
    rw [List.map_append, List.sum_append, h3]
    simp only [List.map_cons, List.map_nil, List.sum_cons, List.sum_nil]
    omega

def Over (A : AD) (segs : List Sg) (x : List UInt8) : Prop := A.1 < ((24 + x.length + szS segs : Nat) : Int) ∨ 128 ≤ segs.length ∨ 65536 < 24 + x.length + szS segs

theorem fresh_step (h : LG σ l d most js segs safe) (hD : DV σ d n0 A) (hA : OkA A) (hg : Good segs) (hd : downA A = false) (hL : DLs A.2.1 segs (lastLen segs)) {x : List UInt8} (hx : OkR x) (hn : nextS segs + 1 ≤ 1000000) (hne : segs = [] ∨ 0 < lastLen segs) :
    ∃ e σ2 B, f24 (some d) (fileL (nextS segs)) (recB (nextS segs) x) (σ.add_wal_segment ((nextS segs : Int), [], 0, ())) = some (e, σ2) ∧ Fw σ σ2 d n0 ∧ B.1 = A.1 ∧ (armA0 A = 0 → armA0 B = 0) ∧ DV σ2 d n0 B ∧ OkA B ∧ σ2.t_wal_segment[σ.t_wal_segment.length]? = some ((nextS segs : Int), [], 0, ()) ∧ LG σ2 l d most js segs safe ∧
      ((e = 0 ∧ downA B = false ∧ DLs B.2.1 (segs ++ [(nextS segs, [x])]) 0 ∧
          LG ((σ2.set1_wal_segment σ.t_wal_segment.length ((nextS segs : Int), [x], ((recB (nextS segs) x).length : Int), ())).set1_wal_Log l (some d, nmL, most, js.map some ++ [some σ.t_wal_segment.length], (safe : Int), ())) l d most (js ++ [σ.t_wal_segment.length]) (segs ++ [(nextS segs, [x])]) safe) ∨
       (e = 10 ∧ downA B = false ∧ DLs B.2.1 segs (lastLen segs) ∧ Over A segs x) ∨
       (e = 11 ∧ downA B = true ∧ armA0 A ≠ 0 ∧ DLs B.2.1 (segs ++ [(nextS segs, [x])]) 0)) := by
  have hle := nextS_le hg
  have hnm := fileL_len (n := nextS segs) (by omega)
  have h1 := h.add ((nextS segs : Int), [], 0, ())
  obtain ⟨σ2, g1, g2, g3⟩ := f24_eq (hD.same (σ' := σ.add_wal_segment ((nextS segs : Int), [], 0, ())) rfl rfl) hA (fileL (nextS segs)) (recB (nextS segs) x) (by omega)
  have h2 := h1.same g3.oth
  have e130 : σ2.t_wal_segment = (σ.add_wal_segment ((nextS segs : Int), [], 0, ())).t_wal_segment := congrArg (fun x => x.2.2) g3.oth
  have hnew : σ2.t_wal_segment[σ.t_wal_segment.length]? = some ((nextS segs : Int), [], 0, ()) := by rw [e130]; exact got_wal_segment
  have hfw : Fw σ σ2 d n0 := (Fw.of rfl rfl rfl : Fw σ (σ.add_wal_segment ((nextS segs : Int), [], 0, ())) d n0).trans g3.fw
  have hall := hL.all
  have hap := fileL_new hg hne
  obtain ⟨s1, s2⟩ := set_new (f := lgF (nextS segs, [x]) 0) hall (fun g hgm e => hap g hgm (fileL_inj e))
  have hfl : (lgF (nextS segs, [x]) 0).1 = fileL (nextS segs) := rfl
  rw [hfl] at s1
  have hmore : moreF (emptyF (fileL (nextS segs))) (recB (nextS segs) x) = lgF (nextS segs, [x]) 0 := by
    simp [moreF, emptyF, lgF, segB]
  by_cases hc : full A (fileL (nextS segs)) (recB (nextS segs) x)
  · have e0 : appendA A (fileL (nextS segs)) (recB (nextS segs) x) = (10, A) := by
      unfold appendA
      rw [if_neg (by rw [show A.2.2.2.1 = false from hd]; decide), if_neg (by rw [okName_fileL (by omega)]; decide), if_pos hc]
    rw [e0] at g1 g2
    refine ⟨10, σ2, A, g1, hfw, rfl, id, g2, hA, hnew, h2, .inr (.inl ⟨rfl, hd, hL, ?_⟩)⟩
    have hu := hL.used hg
    have hb := recB_le (n := nextS segs) (x := x) (by unfold OkN; omega) hx
    have hlen : A.2.1.length = segs.length := by rw [hall.length_eq]; simp
    unfold Over
    unfold full at hc
    rw [s1] at hc
    simp only [Option.getD_none] at hc
    have hz : fsize (emptyF (fileL (nextS segs))) = 0 := rfl
    rw [hz] at hc
    rcases hc with ⟨_, hc⟩ | hc | hc
    · right; left; omega
    · right; right; omega
    · left; omega
  · have hB := hA.appended hc
    rw [s1] at hB
    have e0 : appendA A (fileL (nextS segs)) (recB (nextS segs) x) = writeA (putA A (setL (lgF (nextS segs, [x]) 0) false A.2.1)) id := by
      unfold appendA
      rw [if_neg (by rw [show A.2.2.2.1 = false from hd]; decide), if_neg (by rw [okName_fileL (by omega)]; decide), if_neg hc, s1]
      simp only [Option.getD_none, hmore]
    simp only [Option.getD_none, hmore] at hB
    have hdl : DLs (setL (lgF (nextS segs, [x]) 0) false A.2.1) (segs ++ [(nextS segs, [x])]) 0 := .some s2 (Nat.zero_le _)
    obtain ⟨B, b1, b2, b3, b4, ⟨b5, b6⟩ | ⟨b5, b6, b7⟩⟩ := write_cases (A := putA A (setL (lgF (nextS segs, [x]) 0) false A.2.1)) hB hd id
    · rw [e0, b6] at g1 g2
      refine ⟨0, σ2, B, g1, hfw, b1, b4, g2, b3, hnew, h2, .inl ⟨rfl, b5, by rw [b2]; exact hdl, ?_⟩⟩
      have hnj : σ.t_wal_segment.length ∉ js := fun hm => by have := h.lt _ hm; omega
      have h3 : LG (σ2.set1_wal_segment σ.t_wal_segment.length ((nextS segs : Int), [x], ((recB (nextS segs) x).length : Int), ())) l d most js segs safe := by
        refine ⟨h2.lo, h2.nd, h2.lie.imp2 (fun j hj g hgj => ?_)⟩
        show (σ2.t_wal_segment.set σ.t_wal_segment.length _)[j]? = _
        rw [List.getElem?_set_ne (fun e : σ.t_wal_segment.length = j => hnj (by rw [e]; exact hj))]; exact hgj
      have := h3.link (j := σ.t_wal_segment.length) (g := (nextS segs, [x])) (by
        have e : sgB (nextS segs, [x]) = recB (nextS segs) x := by simp [sgB, segB]
        show _ = some (((nextS segs : Nat) : Int), [x], ((sgB (nextS segs, [x])).length : Int), ())
        rw [e]; exact set1_wal_segment_get hnew) hnj
      exact this
    · rw [e0, b7] at g1 g2
      exact ⟨11, σ2, B, g1, hfw, b1, b4, g2, b3, hnew, h2, .inr (.inr ⟨rfl, b5, b6, by rw [b2]; exact hdl⟩)⟩

theorem lgF_more {g : Sg} {x : List UInt8} (hs : s ≤ g.2.length) : moreF (lgF g s) (recB (sgN g) x) = lgF (g.1, g.2 ++ [x]) s := by
  unfold moreF lgF
  simp only []
  rw [List.take_append_of_le_length hs, List.drop_append_of_le_length hs, segB_app]
  have : g.1 + s + (g.2.drop s).length = sgN g := by rw [List.length_drop]; unfold sgN; omega
  rw [this]
  simp [segB]

theorem same_step {pre : List Sg} {g : Sg} (hD : DV σ d n0 A) (hA : OkA A) (hg : Good (pre ++ [g])) (hd : downA A = false) (hL : DLs A.2.1 (pre ++ [g]) s) {x : List UInt8} (hx : OkR x) :
    ∃ e σ2 B, f24 (some d) (fileL g.1) (recB (sgN g) x) σ = some (e, σ2) ∧ FrD σ σ2 d n0 ∧ B.1 = A.1 ∧ (armA0 A = 0 → armA0 B = 0) ∧ DV σ2 d n0 B ∧ OkA B ∧
      ((e = 0 ∧ downA B = false ∧ DLs B.2.1 (pre ++ [(g.1, g.2 ++ [x])]) s) ∨ (e = 10 ∧ downA B = false ∧ DLs B.2.1 (pre ++ [g]) s ∧ Over A (pre ++ [g]) x) ∨ (e = 11 ∧ downA B = true ∧ armA0 A ≠ 0 ∧ DLs B.2.1 (pre ++ [(g.1, g.2 ++ [x])]) s)) := by
  have htop := hg.top12 (g := g) (by simp)
  have hnm := fileL_len htop
  obtain ⟨hp, hs⟩ := hL.inv
  obtain ⟨σ2, g1, g2, g3⟩ := f24_eq hD hA (fileL g.1) (recB (sgN g) x) (by omega)
  have hfd := last_find hp rfl hA.sorted
  by_cases hc : full A (fileL g.1) (recB (sgN g) x)
  · have e0 : appendA A (fileL g.1) (recB (sgN g) x) = (10, A) := by
      unfold appendA
      rw [if_neg (by rw [show A.2.2.2.1 = false from hd]; decide), if_neg (by rw [okName_fileL htop]; decide), if_pos hc]
    rw [e0] at g1 g2
    refine ⟨10, σ2, A, g1, g3, rfl, id, g2, hA, .inr (.inl ⟨rfl, hd, hL, ?_⟩)⟩
    have hu := hL.used hg
    have htg := hg.top g (by simp)
    have hb := recB_le (n := sgN g) (x := x) (by unfold OkN; omega) hx
    have hfs : fsize (lgF g s) ≤ usedL A.2.1 := by
      rw [usedL_perm hp, usedL_append]
      simp only [usedL]; omega
    unfold Over
    unfold full at hc
    rw [hfd] at hc
    simp only [Option.getD_some] at hc
    rcases hc with ⟨hc, _⟩ | hc | hc
    · simp at hc
    · right; right; omega
    · left; omega
  · have hB := hA.appended hc
    rw [hfd] at hB
    simp only [Option.getD_some, lgF_more hs] at hB
    have e0 : appendA A (fileL g.1) (recB (sgN g) x) = writeA (putA A (setL (lgF (g.1, g.2 ++ [x]) s) false A.2.1)) id := by
      unfold appendA
      rw [if_neg (by rw [show A.2.2.2.1 = false from hd]; decide), if_neg (by rw [okName_fileL htop]; decide), if_neg hc, hfd]
      simp only [Option.getD_some, lgF_more hs]
    have hdl : DLs (setL (lgF (g.1, g.2 ++ [x]) s) false A.2.1) (pre ++ [(g.1, g.2 ++ [x])]) s := by
      refine .some (last_set hp rfl rfl hg.chain) ?_
      rw [List.length_append]; omega
    obtain ⟨B, b1, b2, b3, b4, ⟨b5, b6⟩ | ⟨b5, b6, b7⟩⟩ := write_cases (A := putA A (setL (lgF (g.1, g.2 ++ [x]) s) false A.2.1)) hB hd id
    · rw [e0, b6] at g1 g2
      exact ⟨0, σ2, B, g1, g3, b1, b4, g2, b3, .inl ⟨rfl, b5, by rw [b2]; exact hdl⟩⟩
    · rw [e0, b7] at g1 g2
      exact ⟨11, σ2, B, g1, g3, b1, b4, g2, b3, .inr (.inr ⟨rfl, b5, b6, by rw [b2]; exact hdl⟩)⟩

theorem LG.more {pre : List Sg} {g : Sg} {x : List UInt8} {jp : List Nat} {j : Nat} (h : LG σ l d most (jp ++ [j]) (pre ++ [g]) safe) :
    LG (σ.set1_wal_segment j ((g.1 : Int), g.2 ++ [x], ((sgB (g.1, g.2 ++ [x])).length : Int), ())) l d most (jp ++ [j]) (pre ++ [(g.1, g.2 ++ [x])]) safe := by
  obtain ⟨jp', j', e, h1, h2⟩ := h.split
  obtain ⟨rfl, ej⟩ := List.append_inj' e rfl
  simp only [List.cons.injEq, and_true] at ej
  subst ej
  have hnj : j ∉ jp := fun hm => (List.nodup_append.1 h.nd).2.2 j hm j (by simp) rfl
  refine ⟨h.lo, h.nd, All2.app (h1.imp2 (fun k hk a ha => ?_)) (show All2 _ [j] [_] from ⟨?_, trivial⟩)⟩
  · show (σ.t_wal_segment.set j _)[k]? = _
    rw [List.getElem?_set_ne (fun e : j = k => hnj (by rw [e]; exact hk))]; exact ha
  · exact set1_wal_segment_get h2

theorem set130_set {j : Nat} {x y : denFs fs_wal_segment} : (σ.set1_wal_segment j x).set1_wal_segment j y = σ.set1_wal_segment j y := by unfold St.set1_wal_segment; simp

structure AppOut (σ : St) (l d n0 : Nat) (most : Int) (A : AD) (js : List Nat) (segs : List Sg) (safe s : Nat) (x : List UInt8) (v e : Int) (σ' : St) (B : AD) (js' : List Nat) (segs' : List Sg) (safe' s' : Nat) : Prop where
  run : f59 (some l) x σ = some ((v, e), σ')
  fw : Fw σ σ' d n0
  room : B.1 = A.1
  arm : armA0 A = 0 → armA0 B = 0
  out : (e = 0 ∧ v = (nextS segs : Int) ∧ downA B = false ∧ More segs x segs' ∧ safe' ≤ nextS segs ∧ WS σ' l d n0 most B js' segs' safe' s') ∨
        (e = 10 ∧ downA B = false ∧ segs' = segs ∧ Over A segs x ∧ WS σ' l d n0 most B js' segs' safe' s') ∨
        (e = 11 ∧ downA B = true ∧ armA0 A ≠ 0 ∧ (segs' = segs ∨ More segs x segs') ∧ f60 (some l) σ' = some (safe' : Int) ∧ safe' ≤ safeOf segs' s' ∧ DV σ' d n0 B ∧ OkA B ∧ DLs B.2.1 segs' s')
  up : safe ≤ safe'

theorem safe_le_next (h : WS σ l d n0 most A js segs safe s) : safe ≤ nextS segs := by
  rw [h.sf]
  have hd := h.dl
  rcases List.eq_nil_or_concat segs with rfl | ⟨pre, g, rfl⟩
  · exact Nat.le_refl _
  · rw [List.concat_eq_append] at *
    rw [safeOf_app, nextS_app]
    have := hd.inv.2
    unfold sgN; omega

theorem Over_room {B : AD} {x : List UInt8} (e : B.1 = A.1) (h : Over B segs x) : Over A segs x := by
  unfold Over at *
  rw [e] at h
  exact h

theorem f59_fresh (h : WS σ l d n0 most A js segs safe s) (hd : downA A = false) {x : List UInt8} (hx : OkR x) (hn : nextS segs + 1 ≤ 1000000) (hln : segs.length ≤ 800) (hne : segs = [] ∨ 0 < lastLen segs)
    (hfr : ∀ (σ1 : St) (B1 : AD), LG σ1 l d most js segs (nextS segs) → f61 (some l) σ = some (0, σ1) → ∀ (e : Int) (σ2 : St), f24 (some d) (fileL (nextS segs)) (recB (nextS segs) x) (σ1.add_wal_segment ((nextS segs : Int), [], 0, ())) = some (e, σ2) → σ2.t_wal_segment[σ1.t_wal_segment.length]? = some ((nextS segs : Int), [], 0, ()) → LG σ2 l d most js segs (nextS segs) →
      f59 (some l) x σ = some (if e = 0 then (((nextS segs : Int), 0), (σ2.set1_wal_segment σ1.t_wal_segment.length ((nextS segs : Int), [x], ((recB (nextS segs) x).length : Int), ())).set1_wal_Log l (some d, nmL, most, js.map some ++ [some σ1.t_wal_segment.length], (nextS segs : Int), ())) else ((0, e), σ2)))
    (hfail : ∀ (σ1 : St), f61 (some l) σ = some (11, σ1) → f59 (some l) x σ = some ((0, 11), σ1)) :
    ∃ v e σ' B js' segs' safe' s', AppOut σ l d n0 most A js segs safe s x v e σ' B js' segs' safe' s' := by
  have hsn := safe_le_next h
  obtain ⟨σ1, B1, e1, g1, r1, _, a1, v1, k1, k2, ⟨rfl, d1, l1, m1⟩ | ⟨rfl, d1, w1, l1, m1⟩⟩ := f61_eq h.lg h.dv h.ok h.good (by have := h.len; omega) h.dl hd
  · obtain ⟨e2, σ2, B2, g2, r2, a2, v2, k3, k4, n2, l2, o⟩ := fresh_step l1 k1 k2 h.good d1 m1 hx hn hne
    have hrun := hfr σ1 B1 l1 g1 e2 σ2 g2 n2 l2
    have hmore : More segs x (segs ++ [(nextS segs, [x])]) := .fresh hne
    rcases o with ⟨rfl, o1, o2, o3⟩ | ⟨rfl, o1, o2, o2x⟩ | ⟨rfl, o1, o2, o3⟩
    · rw [if_pos rfl] at hrun
      refine ⟨_, _, _, B2, _, _, nextS segs, 0, hrun, (r1.trans r2).trans (Fw.of rfl rfl rfl), a2.trans a1, fun hh => v2 (v1 hh), .inl ⟨rfl, rfl, o1, hmore, Nat.le_refl _, o3, k3.same rfl rfl, k4, o2, hmore.good h.good hx hn, ?_, ?_⟩, hsn⟩
      · rw [List.length_append]; simp only [List.length_cons, List.length_nil]; omega
      · rw [safeOf_app]; rfl
    · rw [if_neg (by decide)] at hrun
      exact ⟨_, _, _, B2, _, _, nextS segs, lastLen segs, hrun, r1.trans r2, a2.trans a1, fun hh => v2 (v1 hh), .inr (.inl ⟨rfl, o1, rfl, Over_room (segs := segs) a1 o2x, l2, k3, k4, o2, h.good, h.len, (safeOf_all segs).symm⟩), hsn⟩
    · rw [if_neg (by decide)] at hrun
      exact ⟨_, _, _, B2, js, _, nextS segs, 0, hrun, r1.trans r2, a2.trans a1, fun hh => v2 (v1 hh), .inr (.inr ⟨rfl, o1, fun hh => o2 (v1 hh), .inr hmore, f60_eq l2, by rw [safeOf_app]; exact Nat.le_refl _, k3, k4, o3⟩), hsn⟩
  · have hrun := hfail σ1 g1
    exact ⟨_, _, σ1, B1, js, segs, safe, s, hrun, r1, a1, v1, .inr (.inr ⟨rfl, d1, w1, .inl rfl, f60_eq l1, by rw [← h.sf]; exact Nat.le_refl _, k1, k2, m1⟩), Nat.le_refl _⟩
end
end Go.Proofs.YtbnmhjobnepajaaGreat.M


namespace Go.Proofs.YtbnmhjobnepajaaGreat.M

section
variable {σ : St} {l d n0 : Nat} {most : Int} {js : List Nat} {segs : List Sg} {safe s : Nat} {A : AD}

theorem f59_none (h : WS σ l d n0 most A js [] safe s) (hd : downA A = false) {x : List UInt8} (hx : OkR x) : ∃ v e σ' B js' segs' safe' s', AppOut σ l d n0 most A js [] safe s x v e σ' B js' segs' safe' s' := by
  have hx' : x.length ≤ 1024 := hx
  have hn0 : nextS [] = 0 := rfl
  have hj : js = [] := by
    have := All2.len h.lg.lie
    exact List.eq_nil_of_length_eq_zero (by simpa using this)
  refine f59_fresh h hd hx (by decide) (by simp) (.inl rfl) ?_ ?_
  · intro σ1 B1 l1 g1 e σ2 g2 n2 l2
    have h1 := l1.add ((nextS [] : Int), [], 0, ())
    have hlo1 := h1.lo
    have hlo2 := l2.lo
    have e98 := f98_eq (g := 0) h1 (j := σ1.t_wal_segment.length) got_wal_segment (n := nextS []) rfl (by decide)
    unfold f59
    simp only [Option.isNone_some, Bool.false_eq_true, if_false, f55_eq h.lg h.good (by simp), f97_none h.lg, Option.bind_eq_bind, Option.bind_some]
    rw [if_neg (by simp; omega)]
    simp only [Option.isNone_none, if_true]
    rw [g1]
    simp only [Option.bind_some]
    rw [if_neg (by simp), f99_eq (by decide) hx]
    simp only [Option.bind_some, hlo1, e98]
    rw [g2]
    simp only [Option.bind_some]
    by_cases c : e = 0
    · subst c
      rw [if_neg (by simp), if_pos rfl, n2]
      simp only [Option.bind_some]
      rw [if_pos (by decide), set130_set]
      have hlo3 : (σ2.set1_wal_segment σ1.t_wal_segment.length ((nextS [] : Int), [] ++ [x], IntKind.wrap .i64 (0 + ((recB (nextS []) x).length : Int)), ())).t_wal_Log[l]? = some (some d, nmL, most, js.map some, ((nextS [] : Nat) : Int), ()) := hlo2
      rw [hlo3]
      simp only [Option.bind_some]
      have hrl := recB_len (n := nextS []) (by decide) hx
      rw [if_pos (by rw [hj]; decide)]
      have hw : IntKind.wrap .i64 (0 + ((recB (nextS []) x).length : Int)) = ((recB (nextS []) x).length : Int) := by rw [wrap_id (by omega) (by omega)]; omega
      rw [hw]
      rfl
    · rw [if_pos (by simpa using c), if_neg c]
  · intro σ1 g1
    unfold f59
    simp only [Option.isNone_some, Bool.false_eq_true, if_false, f55_eq h.lg h.good (by simp), f97_none h.lg, Option.bind_eq_bind, Option.bind_some]
    rw [if_neg (by simp; omega)]
    simp only [Option.isNone_none, if_true]
    rw [g1]
    simp only [Option.bind_some]
    rw [if_pos (by simp)]

theorem f59_some {pre : List Sg} {g : Sg} (h : WS σ l d n0 most A js (pre ++ [g]) safe s) (hd : downA A = false) {x : List UInt8} (hx : OkR x) (hn : nextS (pre ++ [g]) + 1 ≤ 1000000) (hln : (pre ++ [g]).length ≤ 800) (hmo : 1 ≤ most) :
    ∃ v e σ' B js' segs' safe' s', AppOut σ l d n0 most A js (pre ++ [g]) safe s x v e σ' B js' segs' safe' s' := by
  have hx' : x.length ≤ 1024 := hx
  obtain ⟨jp, j, ej, q1, q2⟩ := h.lg.split
  have hjl : jp.length = pre.length := All2.len q1
  have hlo := h.lg.lo
  have htop := h.good.top12 (g := g) (by simp)
  have htg := h.good.top g (by simp)
  have hlB := h.good.lenB (g := g) (by simp)
  have hrl := recB_len (n := nextS (pre ++ [g])) (by unfold OkN; omega) hx
  have e97 := f97_last h.lg (by simp at hln; omega) ej
  have e55 := f55_eq h.lg h.good (by omega)
  have hml : (js.map some).length = pre.length + 1 := by rw [ej]; simp [hjl]
  have hml2 : (js.map some).length ≤ 800 := by rw [hml]; simp at hln; omega
  by_cases hfresh : most ≤ ((sgB g).length : Int)
  · have hpos : 0 < g.2.length := by
      rcases Nat.eq_zero_or_pos g.2.length with h0 | h0
      · have : g.2 = [] := List.eq_nil_of_length_eq_zero h0
        unfold sgB at hfresh
        rw [this] at hfresh
        simp [segB] at hfresh
        omega
      · exact h0
    refine f59_fresh h hd hx hn hln (.inr (by rw [lastLen_app]; exact hpos)) ?_ ?_
    · intro σ1 B1 l1 g1 e σ2 g2 n2 l2
      have h1 := l1.add ((nextS (pre ++ [g]) : Int), [], 0, ())
      have hlo1 := h1.lo
      have hlo2 := l2.lo
      have e98 := f98_eq (g := 0) h1 (j := σ1.t_wal_segment.length) got_wal_segment (n := nextS (pre ++ [g])) rfl (by omega)
      unfold f59
      simp only [Option.isNone_some, Bool.false_eq_true, if_false, e55, e97, q2, hlo, Option.bind_eq_bind, Option.bind_some]
      rw [if_neg (by simp; omega), if_pos (by simpa using hfresh), g1]
      simp only [Option.bind_some]
      rw [if_neg (by simp), f99_eq (by unfold OkN; omega) hx]
      simp only [Option.bind_some, hlo1, e98]
      rw [g2]
      simp only [Option.bind_some]
      by_cases c : e = 0
      · subst c
        rw [if_neg (by simp), if_pos rfl, n2]
        simp only [Option.bind_some]
        rw [if_pos (by simp), if_pos (by simpa using hfresh), set130_set]
        have hlo3 : (σ2.set1_wal_segment σ1.t_wal_segment.length ((nextS (pre ++ [g]) : Int), [] ++ [x], IntKind.wrap .i64 (0 + ((recB (nextS (pre ++ [g])) x).length : Int)), ())).t_wal_Log[l]? = some (some d, nmL, most, js.map some, ((nextS (pre ++ [g]) : Nat) : Int), ()) := hlo2
        rw [hlo3]
        simp only [Option.bind_some]
        rw [if_pos (by omega)]
        have hw : IntKind.wrap .i64 (0 + ((recB (nextS (pre ++ [g])) x).length : Int)) = ((recB (nextS (pre ++ [g])) x).length : Int) := by rw [wrap_id (by omega) (by omega)]; omega
        rw [hw]
        rfl
      · rw [if_pos (by simpa using c), if_neg c]
    · intro σ1 g1
      unfold f59
      simp only [Option.isNone_some, Bool.false_eq_true, if_false, e55, e97, q2, hlo, Option.bind_eq_bind, Option.bind_some]
      rw [if_neg (by simp; omega), if_pos (by simpa using hfresh), g1]
      simp only [Option.bind_some]
      rw [if_pos (by simp)]
  · obtain ⟨e, σ2, B, g2, r2, a2, v2, k3, k4, o⟩ := same_step h.dv h.ok h.good hd h.dl hx
    have hnx : nextS (pre ++ [g]) = sgN g := nextS_app pre g
    have l2 := h.lg.same r2.oth
    have hlo2 := l2.lo
    have q2' : σ2.t_wal_segment[j]? = some ((g.1 : Int), g.2, ((sgB g).length : Int), ()) := by
      obtain ⟨jp', j', e', q3, q4⟩ := l2.split
      rw [ej] at e'
      obtain ⟨_, e''⟩ := List.append_inj' e' rfl
      simp only [List.cons.injEq, and_true] at e''
      rw [e'']; exact q4
    have hrun : f59 (some l) x σ = some (if e = 0 then (((nextS (pre ++ [g]) : Int), 0), σ2.set1_wal_segment j ((g.1 : Int), g.2 ++ [x], ((sgB (g.1, g.2 ++ [x])).length : Int), ())) else ((0, e), σ2)) := by
      unfold f59
      simp only [Option.isNone_some, Bool.false_eq_true, if_false, e55, e97, q2, hlo, Option.bind_eq_bind, Option.bind_some]
      rw [if_neg (by simp; omega), if_neg (by simpa using hfresh), f99_eq (by unfold OkN; omega) hx, f98_lie h.lg q2 htop]
      simp only [Option.bind_some]
      rw [hnx, g2]
      simp only [Option.bind_some]
      by_cases c : e = 0
      · subst c
        rw [if_neg (by simp), if_pos rfl, q2']
        simp only [Option.bind_some]
        unfold sgN at htg
        rw [if_pos (by omega), if_neg (by simpa using hfresh), set130_set]
        simp only [Option.bind_some]
        have hsz : ((sgB (g.1, g.2 ++ [x])).length : Int) = ((sgB g).length : Int) + ((recB (sgN g) x).length : Int) := by
          unfold sgB
          rw [segB_app, List.length_append]
          simp only [segB, List.append_nil]
          unfold sgN
          push_cast; rfl
        rw [hnx] at hrl
        have hw : IntKind.wrap .i64 (((sgB g).length : Int) + ((recB (sgN g) x).length : Int)) = ((sgB (g.1, g.2 ++ [x])).length : Int) := by rw [hsz, wrap_id (by omega) (by omega)]
        rw [hw]
      · rw [if_pos (by simpa using c), if_neg c]
    have hmore : More (pre ++ [g]) x (pre ++ [(g.1, g.2 ++ [x])]) := .same
    rcases o with ⟨rfl, o1, o2⟩ | ⟨rfl, o1, o2, o2x⟩ | ⟨rfl, o1, o2, o3⟩
    · rw [if_pos rfl] at hrun
      refine ⟨_, _, _, B, js, _, safe, s, hrun, r2.fw.trans (Fw.of rfl rfl rfl), a2, v2, .inl ⟨rfl, rfl, o1, hmore, safe_le_next h, ?_, k3.same rfl rfl, k4, o2, hmore.good h.good hx hn, by have := hmore.len.1; omega, ?_⟩, Nat.le_refl _⟩
      · rw [ej] at l2 ⊢
        exact l2.more
      · rw [h.sf, safeOf_app, safeOf_app]
    · rw [if_neg (by decide)] at hrun
      exact ⟨_, _, _, B, js, _, safe, s, hrun, r2.fw, a2, v2, .inr (.inl ⟨rfl, o1, rfl, o2x, l2, k3, k4, o2, h.good, h.len, h.sf⟩), Nat.le_refl _⟩
    · rw [if_neg (by decide)] at hrun
      exact ⟨_, _, _, B, js, _, safe, s, hrun, r2.fw, a2, v2, .inr (.inr ⟨rfl, o1, o2, .inr hmore, f60_eq l2, by rw [h.sf, safeOf_app, safeOf_app]; exact Nat.le_refl _, k3, k4, o3⟩), Nat.le_refl _⟩

theorem f59_eq (h : WS σ l d n0 most A js segs safe s) (hd : downA A = false) {x : List UInt8} (hx : OkR x) (hn : nextS segs + 1 ≤ 1000000) (hln : segs.length ≤ 800) (hmo : 1 ≤ most) :
    ∃ v e σ' B js' segs' safe' s', AppOut σ l d n0 most A js segs safe s x v e σ' B js' segs' safe' s' := by
  rcases List.eq_nil_or_concat segs with rfl | ⟨pre, g, rfl⟩
  · exact f59_none h hd hx
  · rw [List.concat_eq_append] at *
    exact f59_some h hd hx hn hln hmo

end
end Go.Proofs.YtbnmhjobnepajaaGreat.M

