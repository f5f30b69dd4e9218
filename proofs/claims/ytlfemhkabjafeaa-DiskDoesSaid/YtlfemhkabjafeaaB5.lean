/- Own library, part 5: soundness of the evaluator; the step over a stretch of reading operations. -/
import Derived.Test.YtlfemhkabjafeaaB4
import Derived.Laws.BytesString
set_option linter.unusedVariables false
set_option linter.unusedSimpArgs false
namespace Go.Proofs.Ytlfemhkabjafeaa.M

section
variable {P : Program} {w : World} {G : Gh} {T : Tabs} {L : List LS}

theorem extract_mk (s : List UInt8) (a b : Nat) : (⟨s.toArray⟩ : ByteArray).extract a b = ⟨((s.take b).drop a).toArray⟩ := by
  apply ByteArray.ext
  simp [ByteArray.data_extract, List.extract_eq_take_drop, List.drop_take]

theorem list_slice {k : Kd} {xs : List k.den} {v : Value} (h : VR G (.list k) xs v) : ∃ A c, v = .slice A xs.length c ∧ xs.length ≤ c ∧ (xs = [] ∨ ∃ b off p, A = some ⟨b, off, none⟩ ∧ G.pre b = some p ∧ rowR (Kr G k) k.w xs (p.drop off)) := VR_list.1 h

theorem ix_run {ty el : TypeId} {k : Kd} {xs : List k.den} {n : Int} {kn : IntKind} {k' : Kd} {y : k'.den} {v : Value} {sz : Nat} (hu : P.underlying ty = some (.slice el)) (hs : sizeT P el = some sz)
    (hw : sz = k.w) (hw0 : 0 < k.w) (hv : VR G (.list k) xs v) (hi : IxAt k xs n k' y) :
    ∃ u, (Instr.indexAt ty v (.int kn n)).run P w = .ok u w ∧ EnR G (.elA k' y 0) u := by
  obtain ⟨h0, hi⟩ := hi
  rw [List.getElem?_map] at hi
  obtain ⟨x, hx, he⟩ := Option.map_eq_some_iff.1 hi
  obtain ⟨rfl, he⟩ := KV.mk.inj he
  have he := eq_of_heq he
  subst he
  have hlt := (List.getElem?_eq_some_iff.1 hx).1
  obtain ⟨A, c, rfl, hc, hr⟩ := list_slice hv
  rcases hr with hr | ⟨b, off, p, rfl, hp, hr⟩
  · subst hr; simp at hlt
  · obtain ⟨h1, h2⟩ := rowR_get hr hx
    rw [List.drop_drop] at h1 h2
    refine ⟨.pointer (some ⟨b, off + n.toNat * k.w, none⟩), ?_, b, off + n.toNat * k.w, p, rfl, hp, by rw [List.length_drop] at h1; omega, h2⟩
    have hn : 0 ≤ n ∧ n < (xs.length : Int) := ⟨h0, by omega⟩
    have ht : (xs.length ≤ 1 && false) = false := by simp
    simp [Instr.indexAt, asIntOf, underlying, hu, run_sizeOf hs, hn, addr_add, hw]

theorem evIx_ok {ty : TypeId} {e : En} {n : Int} {kn : IntKind} {A : List Adv} {e' : En} {O : List Prop} {A' : List Adv} {v : Value} (hv : EnR G e v)
    (he : evIx P ty e n A = some (e', O, A')) (hO : AllP O) : ∃ u, (Instr.indexAt ty v (.int kn n)).run P w = .ok u w ∧ EnR G e' u := by
  unfold evIx at he
  split at he
  · rename_i el hu
    split at he
    · rename_i k' y A''
      split at he
      · split at he
        · rename_i k xs sz hs
          split at he
          · rename_i hb
            simp only [Bool.and_eq_true] at hb
            simp only [Option.some.injEq, Prod.mk.injEq] at he
            obtain ⟨rfl, rfl, rfl⟩ := he
            exact ix_run hu hs (Nat.eq_of_beq_eq_true hb.1) (Nat.le_of_ble_eq_true hb.2) hv hO.1
          · simp at he
        · simp at he
      · split at he
        · rename_i u k xs sz hs
          split at he
          · rename_i hb
            simp only [Bool.and_eq_true] at hb
            simp only [Option.some.injEq, Prod.mk.injEq] at he
            obtain ⟨rfl, rfl, rfl⟩ := he
            exact ix_run hu hs (Nat.eq_of_beq_eq_true hb.1) (Nat.le_of_ble_eq_true hb.2) hv.2 hO.1
          · simp at he
        · simp at he
      · simp at he
    · simp at he
  · simp at he

def optV (M : Operand → Option En) (ρ : Operand → Value) : Option Operand → Option Value := fun x => x.map ρ

theorem optI_ok {M : Operand → Option En} {ρ : Operand → Value} (hM : ∀ x e, M x = some e → EnR G e (ρ x)) {x : Option Operand} {r : Option Int} (h : optI M x = some r) :
    ∃ k, x.map ρ = r.map (Value.int k) := by
  cases x with
  | none => simp [optI] at h; subst h; exact ⟨.i64, rfl⟩
  | some x =>
    simp only [optI] at h
    split at h
    · rename_i k n hx
      simp only [Option.some.injEq] at h; subst h
      exact ⟨k, by simp [unI (hM _ _ hx)]⟩
    · simp at h

theorem run_bound {k : IntKind} {n : Int} {y : Nat} {code : BoundsCode} (h : 0 ≤ n ∧ n ≤ (y : Int)) : (Instr.sliceBound (.int k n) y code).run P w = .ok n.toNat w := by
  simp [Instr.sliceBound, asIntOf, h]

theorem bounds_run {isS : Bool} {len cap : Nat} {lo hi : Option Int} {k1 k2 : IntKind} (hc : len ≤ cap) (h : slB len lo hi) :
    (Instr.sliceBounds isS len cap (lo.map (Value.int k1)) (hi.map (Value.int k2)) none).run P w = .ok ((lo.map Int.toNat).getD 0, (hi.map Int.toNat).getD len, cap) w := by
  unfold slB at h
  cases lo with
  | none =>
    cases hi with
    | none => simp [Instr.sliceBounds]
    | some b =>
      simp only at h
      have hb : 0 ≤ b ∧ b ≤ (cap : Int) := by omega
      simp [Instr.sliceBounds, run_bound hb]
  | some a =>
    cases hi with
    | none =>
      simp only at h
      simp [Instr.sliceBounds, run_bound h]
    | some b =>
      simp only at h
      have hb : 0 ≤ b ∧ b ≤ (cap : Int) := by omega
      have ha : 0 ≤ a ∧ a ≤ (b.toNat : Int) := by omega
      simp [Instr.sliceBounds, run_bound hb, run_bound ha]

theorem slL_eq {α : Type} (s : List α) {lo hi : Option Int} (h : slB s.length lo hi) : slL s lo hi = (s.take ((hi.map Int.toNat).getD s.length)).drop ((lo.map Int.toNat).getD 0) := by
  cases lo <;> cases hi <;> simp [slL]

theorem slL_len {α : Type} (s : List α) {lo hi : Option Int} (h : slB s.length lo hi) : (slL s lo hi).length = (hi.map Int.toNat).getD s.length - (lo.map Int.toNat).getD 0 ∧ (lo.map Int.toNat).getD 0 ≤ (hi.map Int.toNat).getD s.length ∧ (hi.map Int.toNat).getD s.length ≤ s.length := by
  cases lo <;> cases hi <;> simp [slL, slB] at h ⊢ <;> omega

theorem slStr_run {ty : TypeId} {s : List UInt8} {lo hi : Option Int} {k1 k2 : IntKind} (hu : P.underlying ty = some .string) (h : slB s.length lo hi) :
    (Instr.sliceAt ty (.string ⟨s.toArray⟩) (lo.map (Value.int k1)) (hi.map (Value.int k2)) none).run P w = .ok (.string ⟨(slL s lo hi).toArray⟩) w := by
  unfold Instr.sliceAt
  rw [run_und hu]
  simp only [Instr.slice]
  rw [run_und hu]
  simp only [Option.isSome_none, Bool.false_eq_true, if_false, Sem.run_bind, size_mk, bounds_run (P := P) (w := w) (isS := false) (k1 := k1) (k2 := k2) (Nat.le_refl _) h, Result.andThen_ok]
  rw [slL_eq s h, extract_mk]
  rfl

theorem slList_run {ty el : TypeId} {k : Kd} {xs : List k.den} {v : Value} {lo hi : Option Int} {k1 k2 : IntKind} {sz : Nat} (hu : P.underlying ty = some (.slice el)) (hs : sizeT P el = some sz) (hw : sz = k.w)
    (hv : VR G (.list k) xs v) (h : slB xs.length lo hi) :
    ∃ u, (Instr.sliceAt ty v (lo.map (Value.int k1)) (hi.map (Value.int k2)) none).run P w = .ok u w ∧ VR G (.list k) (slL xs lo hi) u := by
  obtain ⟨A, c, rfl, hc, hr⟩ := list_slice hv
  obtain ⟨hl, hl1, hl2⟩ := slL_len xs h
  refine ⟨.slice (if c = (lo.map Int.toNat).getD 0 then A else A.map (·.add ((lo.map Int.toNat).getD 0 * sz))) (slL xs lo hi).length (c - (lo.map Int.toNat).getD 0), ?_, ?_⟩
  · unfold Instr.sliceAt
    rw [run_und hu]
    simp only [Instr.slice]
    rw [run_und hu]
    simp only [Sem.run_bind, bounds_run (P := P) (w := w) (isS := true) (k1 := k1) (k2 := k2) hc h, Result.andThen_ok, run_sizeOf hs, hl]
    rfl
  · refine VR_list.2 ⟨_, _, rfl, by omega, ?_⟩
    by_cases he : slL xs lo hi = []
    · exact .inl he
    · right
      have hne : (slL xs lo hi).length ≠ 0 := fun h0 => he (List.eq_nil_of_length_eq_zero h0)
      rcases hr with hr | ⟨b, off, p, rfl, hp, hr⟩
      · subst hr; exfalso; apply he; cases lo <;> cases hi <;> simp [slL]
      · refine ⟨b, off + (lo.map Int.toNat).getD 0 * k.w, p, ?_, hp, ?_⟩
        · rw [if_neg (by omega)]
          simp [addr_add, hw]
        · rw [slL_eq xs h, ← List.drop_drop]
          exact rowR_drop _ (rowR_take _ hr)

theorem evSl_ok {ty : TypeId} {e : En} {lo hi : Option Int} {k1 k2 : IntKind} {A : List Adv} {e' : En} {O : List Prop} {A' : List Adv} {v : Value} (hv : EnR G e v)
    (he : evSl P ty e lo hi A = some (e', O, A')) (hO : AllP O) : ∃ u, (Instr.sliceAt ty v (lo.map (Value.int k1)) (hi.map (Value.int k2)) none).run P w = .ok u w ∧ EnR G e' u := by
  unfold evSl at he
  split at he
  · rename_i s hu
    simp only [Option.some.injEq, Prod.mk.injEq] at he
    obtain ⟨rfl, rfl, rfl⟩ := he
    obtain rfl := unS hv
    exact ⟨_, slStr_run hu hO.1, mkS⟩
  · rename_i hu
    split at he
    · rename_i sz hs
      split at he
      · rename_i hb
        simp only [Option.some.injEq, Prod.mk.injEq] at he
        obtain ⟨rfl, rfl, rfl⟩ := he
        exact slList_run hu hs (Nat.eq_of_beq_eq_true hb) hv hO.1
      · simp at he
    · simp at he
  · rename_i hu
    split at he
    · rename_i sz hs
      split at he
      · rename_i hb
        simp only [Option.some.injEq, Prod.mk.injEq] at he
        obtain ⟨rfl, rfl, rfl⟩ := he
        exact slList_run hu hs (Nat.eq_of_beq_eq_true hb) hv.2 hO.1
      · simp at he
    · simp at he
  · simp at he

theorem index_run {ty : TypeId} {s : List UInt8} {n : Int} {k : IntKind} (hu : P.underlying ty = some .string) (h : 0 ≤ n ∧ n < (s.length : Int)) :
    (Instr.index ty (.string ⟨s.toArray⟩) (.int k n)).run P w = .ok (.int .u8 (btS s n)) w := by
  unfold Instr.index
  have hlt : n.toNat < s.length := by omega
  have hg : (⟨s.toArray⟩ : ByteArray)[n.toNat]? = some s[n.toNat] := by
    rw [getElem?_pos (⟨s.toArray⟩ : ByteArray) n.toNat (by rw [size_mk]; exact hlt)]
    rfl
  simp [asIntOf, underlying, hu, h.1, hg, btS, List.getD_eq_getElem?_getD, List.getElem?_eq_getElem hlt]

theorem evBin_ok {op : BinOp} {t : TypeId} {x y e' : En} {A A' : List Adv} {O : List Prop} {u v : Value} (hx : EnR G x u) (hy : EnR G y v)
    (he : evBin P op t x y A = some (e', O, A')) (hO : AllP O) (a b : Operand) :
    ∃ r, (do eqGuard op t a b u v; binOp op t u v : Sem Value).run P w = .ok r w ∧ EnR G e' r := by
  unfold evBin at he
  split at he
  · split at he
    · rename_i hk; subst hk
      simp only [Option.some.injEq, Prod.mk.injEq] at he
      obtain ⟨rfl, rfl, rfl⟩ := he
      obtain rfl := unI hx; obtain rfl := unI hy
      exact ⟨_, by simp [eqGuard, binOp, Op.intDiv, hO.1], mkI⟩
    · simp at he
  · split at he
    · rename_i hk; subst hk
      simp only [Option.some.injEq, Prod.mk.injEq] at he
      obtain ⟨rfl, rfl, rfl⟩ := he
      obtain rfl := unI hx; obtain rfl := unI hy
      exact ⟨_, by simp [eqGuard, binOp, Op.intDiv, hO.1], mkI⟩
    · simp at he
  · simp only [Option.some.injEq, Prod.mk.injEq] at he
    obtain ⟨rfl, rfl, rfl⟩ := he
    obtain rfl := unI hx; obtain rfl := unI hy
    have h0 := hO.1
    exact ⟨_, by simp only [eqGuard, binOp, Op.shift, if_neg (Int.not_lt.2 h0)]; rfl, mkI⟩
  · simp only [Option.some.injEq, Prod.mk.injEq] at he
    obtain ⟨rfl, rfl, rfl⟩ := he
    obtain rfl := unI hx; obtain rfl := unI hy
    have h0 := hO.1
    exact ⟨_, by simp only [eqGuard, binOp, Op.shift, if_neg (Int.not_lt.2 h0)]; rfl, mkI⟩
  · rename_i a' b'
    simp only [Option.some.injEq, Prod.mk.injEq] at he
    obtain ⟨rfl, rfl, rfl⟩ := he
    obtain rfl := unS hx; obtain rfl := unS hy
    have h0 := hO.1
    have h1 : ¬ (((a'.length + b'.length : Nat) : Int) > IntKind.i64.max) := by
      have : IntKind.i64.max = 9223372036854775807 := by decide
      rw [this]; omega
    refine ⟨.string (⟨a'.toArray⟩ ++ ⟨b'.toArray⟩), ?_, ?_⟩
    · simp only [eqGuard, binOp, Op.stringOp, size_mk, if_neg h1]; rfl
    · have : (⟨a'.toArray⟩ ++ ⟨b'.toArray⟩ : ByteArray) = ⟨(a' ++ b').toArray⟩ := by
        apply ByteArray.ext; simp
      rw [this]; exact mkS
  · split at he
    · rename_i hb
      simp only [Option.some.injEq, Prod.mk.injEq] at he
      obtain ⟨rfl, rfl, rfl⟩ := he
      obtain ⟨r, h1, h2⟩ := bop_ok (P := P) hx hy hb
      exact ⟨r, by rw [eqGuard_ok hx hy hb]; exact h1 w, h2⟩
    · simp at he

theorem isZeroC_ok : ∀ {k : Kd} {cs r : List Value}, isZeroC k cs = some r → ∃ c1, cs = c1 ++ r ∧ Kr G k (zeroK k) c1
  | .unit, cs, r, h => by simp [isZeroC] at h; subst h; exact ⟨[], rfl, rfl⟩
  | .int k, cs, r, h => by
    unfold isZeroC at h
    split at h
    · split at h
      · rename_i hb
        obtain ⟨rfl, rfl⟩ := hb
        simp only [Option.some.injEq] at h; subst h
        exact ⟨[_], rfl, rfl⟩
      · simp at h
    · simp at h
  | .bool, cs, r, h => by
    unfold isZeroC at h
    split at h
    · split at h
      · rename_i hb
        subst hb
        simp only [Option.some.injEq] at h; subst h
        exact ⟨[_], rfl, rfl⟩
      · simp at h
    · simp at h
  | .str, cs, r, h => by
    unfold isZeroC at h
    split at h
    · rename_i s r'
      split at h
      · rename_i hs
        simp only [Option.some.injEq] at h; subst h
        refine ⟨[.string s], rfl, ?_⟩
        show [Value.string s] = [.string ⟨#[]⟩]
        have : s.data = #[] := by
          apply Array.ext'
          rw [hs]
        cases s; simp at this; subst this; rfl
      · simp at h
    · simp at h
  | .ptr t, cs, r, h => by
    unfold isZeroC at h
    split at h
    · simp only [Option.some.injEq] at h; subst h
      exact ⟨[_], rfl, _, rfl, rfl⟩
    · simp at h
  | .list k, cs, r, h => by
    unfold isZeroC at h
    split at h
    · simp only [Option.some.injEq] at h; subst h
      exact ⟨[_], rfl, none, 0, rfl, Nat.zero_le _, .inl rfl⟩
    · simp at h
  | .pair a b, cs, r, h => by
    unfold isZeroC at h
    split at h
    · rename_i r1 h1
      obtain ⟨c1, rfl, k1⟩ := isZeroC_ok h1
      obtain ⟨c2, rfl, k2⟩ := isZeroC_ok h
      exact ⟨c1 ++ c2, by simp, c1, c2, rfl, k1, k2⟩
    · simp at h

theorem isZero_ok {k : Kd} {v : Value} (h : isZero k v = true) : VR G k (zeroK k) v := by
  unfold isZero at h
  split at h
  · rename_i cs ha
    split at h
    · rename_i hz
      obtain ⟨c1, hc, hk⟩ := isZeroC_ok (G := G) hz
      simp only [VR, ha]
      exact ⟨cs, rfl, by rw [hc]; simpa using hk⟩
    · simp at h
  · simp at h
  · rename_i ha _
    split at h
    · rename_i hz
      obtain ⟨c1, hc, hk⟩ := isZeroC_ok (G := G) hz
      simp only [List.append_nil] at hc
      subst hc
      unfold VR
      split
      · rename_i hb; simp_all
      · exact hk
    · simp at h
  · simp at h

theorem bytes_beq (x y : List UInt8) : ((⟨x.toArray⟩ : ByteArray) == ⟨y.toArray⟩) = (x == y) := by
  show (x.toArray == y.toArray) = (x == y)
  simp

theorem keyEq_now {kk : Kd} {d : TypeDesc} {x y : kk.den} {u v : Value} (hk : keyOK kk (some d) = true) (hx : VR G kk x u) (hy : VR G kk y v) :
    Instr.sameNow d u v = some (keyEq kk x y) := by
  cases kk <;> cases d <;> simp [keyOK] at hk
  · obtain rfl := VR_int.1 hx; obtain rfl := VR_int.1 hy
    simp [Instr.sameNow, keyEq]
  · obtain rfl := VR_bool.1 hx; obtain rfl := VR_bool.1 hy; rfl
  · obtain rfl := VR_str.1 hx; obtain rfl := VR_str.1 hy
    simp only [Instr.sameNow, keyEq, bytes_beq]

def mapIdx (kk kv : Kd) (key : kk.den) : List (kk.den × kv.den) → Nat → Option (Nat × kv.den)
  | [], _ => none
  | (k, v) :: r, i => (match keyEq kk key k with
    | true => some (i, v)
    | false => mapIdx kk kv key r (i + 1))

theorem mapIdx_get {kk kv : Kd} {key : kk.den} : ∀ {m : List (kk.den × kv.den)} {i : Nat}, (mapIdx kk kv key m i).map Prod.snd = mapGet kk kv key m
  | [], _ => rfl
  | (k, v) :: r, i => by
    simp only [mapIdx, mapGet]
    cases keyEq kk key k with
    | true => rfl
    | false => exact mapIdx_get

theorem findNow_ok {kk kv : Kd} {d : TypeDesc} {key : kk.den} {u : Value} (hk : keyOK kk (some d) = true) (hx : VR G kk key u) :
    ∀ {m : List (kk.den × kv.den)} {es : List MapEntry} {i : Nat}, mapL G kk kv m es →
      (∃ j z v, mapIdx kk kv key m i = some (j, z) ∧ Instr.findNow d u es i = some (some (j, v)) ∧ VR G kv z v) ∨
      (mapIdx kk kv key m i = none ∧ Instr.findNow d u es i = some none)
  | [], [], i, _ => .inr ⟨rfl, rfl⟩
  | (k, z) :: m, e :: es, i, ⟨⟨h1, h2⟩, h3⟩ => by
    have hs := keyEq_now hk hx h1
    simp only [mapIdx, Instr.findNow, hs]
    cases hq : keyEq kk key k with
    | true => exact .inl ⟨i, z, e.val, rfl, rfl, h2⟩
    | false => exact findNow_ok hk hx h3
  | [], _ :: _, _, h => h.elim
  | _ :: _, [], _, h => h.elim

theorem checkKey_ok {kk : Kd} {kt : TypeId} {d : TypeDesc} {key : kk.den} {u : Value} {b : Bool} (hd : P.underlying kt = some d) (hk : keyOK kk (some d) = true) (hx : VR G kk key u) :
    (Instr.checkKey b 10000 kt u).run P w = .ok () w := by
  rw [show (10000 : Nat) = 9999 + 1 from rfl]
  unfold Instr.checkKey
  rw [run_und hd]
  cases kk <;> cases d <;> simp [keyOK] at hk
  · obtain rfl := VR_int.1 hx; rfl
  · obtain rfl := VR_bool.1 hx; rfl
  · obtain rfl := VR_str.1 hx; rfl

theorem lookE_ok {ty : TypeId} {ok : Bool} {kk kv : Kd} {key : kk.den} {m : List (kk.den × kv.den)} {r : Nat} {es : Array MapEntry} {cl : Nat} {u : Value} {e' : En}
    (he : lookE P ty ok kk kv key m = some e') (hh : w.heap[r]? = some (.map es cl)) (hm : mapL G kk kv m es.toList) (hu : VR G kk key u) :
    ∃ v, (Instr.lookup ty (.map (some r)) u ok).run P w = .ok v w ∧ EnR G e' v := by
  unfold lookE at he
  split at he
  · rename_i kt et hty
    split at he
    · rename_i z hk hz
      split at he
      · rename_i hzero
        cases hd : P.underlying kt with
        | none => rw [hd] at hk; cases kk <;> simp [keyOK] at hk
        | some d =>
          rw [hd] at hk
          have hz0 := isZero_ok (G := G) hzero
          have hrz : (zeroValue et).run P w = .ok z w := by
            unfold zeroOf at hz
            split at hz
            · rename_i i hi; simp [zeroValue, typeInfo, hi, hz]
            · simp at hz
          have hck : ∀ b, (Instr.checkKey b 10000 kt u).run P w = .ok () w := fun b => checkKey_ok hd hk hu
          have hgo : (getObj r).run P w = .ok (.map es cl) w := by simp [getObj, Sem.run, hh]
          have hidx := mapIdx_get (kk := kk) (kv := kv) (key := key) (m := m) (i := 0)
          rcases findNow_ok (i := 0) hk hu hm with ⟨j, y, v, h1, h2, h3⟩ | ⟨h1, h2⟩
          · have hf : (Instr.findKey kt u es.toList).run P w = .ok (some (j, v)) w := by simp [Instr.findKey, underlying, hd, h2]
            rw [h1] at hidx
            simp only [Option.map_some] at hidx
            rw [← hidx] at he
            unfold Instr.lookup
            rw [run_und hty]
            cases ok with
            | true =>
              simp only [Option.some.injEq] at he; subst he
              exact ⟨.tuple #[v, .bool true], by simp [hgo, hck, hf], #[v, .bool true], rfl, h3, VR_bool.2 rfl, trivial⟩
            | false =>
              simp only [Option.some.injEq] at he; subst he
              exact ⟨v, by simp [hgo, hck, hf], h3⟩
          · have hf : (Instr.findKey kt u es.toList).run P w = .ok none w := by simp [Instr.findKey, underlying, hd, h2]
            rw [h1] at hidx
            simp only [Option.map_none] at hidx
            rw [← hidx] at he
            unfold Instr.lookup
            rw [run_und hty]
            cases ok with
            | true =>
              simp only [Option.some.injEq] at he; subst he
              exact ⟨.tuple #[z, .bool false], by simp [hgo, hck, hf, hrz], #[z, .bool false], rfl, hz0, VR_bool.2 rfl, trivial⟩
            | false =>
              simp only [Option.some.injEq] at he; subst he
              exact ⟨z, by simp [hgo, hck, hf, hrz], hz0⟩
      · simp at he
    · simp at he
  · simp at he

theorem mapO_ok {t i : Nat} : ∀ {fs : List Fk} {x : denFs fs} {f g : Nat} {mp : MP} {cs : List Value}, mapO fs x f = some mp → ObjR w G L t i g fs x cs →
    ∃ r es cl, G.role r = .fld t i (g + f) ∧ w.heap[r]? = some (.map es cl) ∧ mapR G mp.kk mp.kv mp.m es.toList cl
  | [], _, _, _, _, _, h, _ => by simp [mapO] at h
  | .p k :: fs, x, 0, g, mp, cs, h, ho => by simp [mapO] at h
  | .own e bt k :: fs, x, 0, g, mp, cs, h, ho => by simp [mapO] at h
  | .omap kk kv :: fs, x, 0, g, mp, cs, h, ho => by
    simp only [mapO, Option.some.injEq] at h; subst h
    obtain ⟨c1, c2, rfl, ⟨r, es, cl, rfl, h1, h2, h3⟩, _⟩ := ho
    exact ⟨r, es, cl, h1, h2, h3⟩
  | fk :: fs, x, f + 1, g, mp, cs, h, ho => by
    obtain ⟨c1, c2, rfl, _, ho⟩ := ho
    have h' : mapO fs x.2 f = some mp := by cases fk <;> simpa [mapO] using h
    have := mapO_ok h' ho
    rwa [show g + (f + 1) = g + 1 + f by omega]

theorem evMap_ok (h : Holds w G T L) {e : En} {A A' : List Adv} {O : List Prop} {mp : MP} {v : Value} (hv : EnR G e v) (he : evMap T L e A = some (mp, O, A')) (hO : AllP O) :
    ∃ r es cl, v = .map (some r) ∧ w.heap[r]? = some (.map es cl) ∧ mapR G mp.kk mp.kv mp.m es.toList cl := by
  unfold evMap at he
  split at he
  · rename_i t i f fs x A''
    split at he
    · rename_i mp' hm
      simp only [Option.some.injEq, Prod.mk.injEq] at he
      obtain ⟨rfl, rfl, rfl⟩ := he
      obtain ⟨r, rfl, hr⟩ := hv
      obtain ⟨xs, h1, h2⟩ := hO.1
      obtain ⟨b, hb⟩ := h.ex t _ i h1 (List.getElem?_eq_some_iff.1 h2).1
      obtain ⟨ce, ty, hh, hob⟩ := h.at hb hO.1
      obtain ⟨r', es, cl, k1, k2, k3⟩ := mapO_ok hm hob
      rw [Nat.zero_add] at k1
      have := h.finj r r' t i f hr k1
      subst this
      exact ⟨r, es, cl, rfl, k2, k3⟩
    · simp at he
  · rename_i r j r' kk kv m A''
    simp only [Option.some.injEq, Prod.mk.injEq] at he
    obtain ⟨rfl, rfl, rfl⟩ := he
    simp only [EnR] at hv; subst hv
    obtain ⟨rfl, hj⟩ := hO.1
    obtain ⟨hr, es, cl, hh, hm⟩ := h.loc _ (List.mem_of_getElem? hj)
    exact ⟨_, es, cl, rfl, hh, hm⟩
  · simp at he

variable {ρ : Operand → Value} {M : Operand → Option En}

theorem run_val {m : Sem Value} {v : Value} {w' : World} (h : m.run P w = .ok v w') : (do pure (Next.value (← m)) : Sem Next).run P w = .ok (.value v) w' := by simp [h]

theorem evLen_ok (h : Holds w G T L) (hM : ∀ x e, M x = some e → EnR G e (ρ x)) {o : Oper} {A A' : List Adv} {e : En} {O : List Prop} (he : evLen P T L M o.op A = some (e, O, A')) (hO : AllP O) :
    ∃ v, (execOp ρ o).run P w = .ok (.value v) w ∧ EnR G e v := by
  unfold evLen at he
  split at he
  · rename_i c hop
    split at he
    · rename_i x t hcal hargs hts
      split at he
      · rename_i kt vt e0 hu hx
        split at he
        · rename_i mp O' A'' hmp
          simp only [Option.some.injEq, Prod.mk.injEq] at he
          obtain ⟨rfl, rfl, rfl⟩ := he
          obtain ⟨rr, es, cl, hv, hh, hm⟩ := evMap_ok h (hM _ _ hx) hmp hO
          have hop' : o.op = .call { callee := .builtin .len, args := #[x], argTypes := #[t] } := by
            rw [hop]
            congr 1
            cases c with
            | mk ca ar at_ =>
              simp only at hcal hargs hts
              subst hcal
              congr 1
              · rw [← hargs]
              · rw [← hts]
          have hgo : (getObj rr).run P w = .ok (.map es cl) w := by simp [getObj, Sem.run, hh]
          have hlen : es.size = mp.m.length := by rw [← Array.length_toList]; exact hm.1.length.symm
          refine ⟨goInt es.size, ?_, by rw [hlen]; exact mkI⟩
          simp [execOp, hop', resolve, invoke, builtin, Builtin.len_, hv, run_und hu, hgo]
        · simp at he
      · simp at he
    · simp at he
  · simp at he

theorem bytesS_eq (xs : List Int) : (⟨(bytesS xs).toArray⟩ : ByteArray) = xs.foldl (fun r n => r.push (UInt8.ofNat n.toNat)) ByteArray.empty := by
  have go : ∀ (xs : List Int) (l : List UInt8), xs.foldl (fun r n => r.push (UInt8.ofNat n.toNat)) (⟨l.toArray⟩ : ByteArray) = ⟨(l ++ bytesS xs).toArray⟩ := by
    intro xs
    induction xs with
    | nil => intro l; simp [bytesS]
    | cons x r ih =>
      intro l
      have : (⟨l.toArray⟩ : ByteArray).push (UInt8.ofNat x.toNat) = ⟨(l ++ [UInt8.ofNat x.toNat]).toArray⟩ := by simp [ByteArray.push]
      rw [List.foldl_cons, this, ih]
      simp [bytesS]
  have := go xs []
  rw [List.nil_append] at this
  exact this.symm

theorem list_of_u8 {x : En} {xs : List Int} {v : Value} (hx : EnR G x v) (h : u8L x = some xs) : VR G (.list (.int .u8)) xs v := by
  unfold u8L at h
  split at h
  · simp only [Option.some.injEq] at h; subst h; exact hx
  · simp only [Option.some.injEq] at h; subst h; exact hx.2
  · simp only [Option.some.injEq] at h; subst h
    obtain ⟨b, c, e, n, rfl, hn, hr, hs, _, hrow⟩ := hx
    exact VR_list.2 ⟨_, n, rfl, hn, .inr ⟨b, 0, c.toList, rfl, by simp [Gh.pre, hr], by simpa using hrow⟩⟩
  · cases h

theorem bytes_run (h : Holds w G T L) {xs : List Int} {v : Value} (hv : VR G (.list (.int .u8)) xs v) : (Conv.bytesToString v).run P w = .ok (.string ⟨(bytesS xs).toArray⟩) w := by
  obtain ⟨A, c, rfl, hc, hr⟩ := list_slice hv
  rw [bytesS_eq]
  cases A with
  | none =>
    rcases hr with rfl | ⟨b, off, p, hA, _⟩
    · simp [Conv.bytesToString, Sem.run_pure]
    · cases hA
  | some a =>
    have hl : (loadCells a (xs.map (Value.int .u8)).length).run P w = .ok (xs.map (Value.int .u8)).toArray w := by
      refine run_loadCells_list (P := P) w a (xs.map (Value.int .u8)) (fun j v hj => ?_)
      rw [List.getElem?_map] at hj
      obtain ⟨n, hn, rfl⟩ := Option.map_eq_some_iff.1 hj
      rcases hr with rfl | ⟨b, off, p, hA, hp, hrow⟩
      · simp at hn
      · simp only [Option.some.injEq] at hA; subst hA
        obtain ⟨h1, h2⟩ := rowR_get hrow hn
        obtain ⟨ce, ty, fr, rest, hb, he⟩ := h.pre_cells hp
        rw [addr_add, cell_at hb]
        have hk : (Kd.int IntKind.u8).w = 1 := rfl
        rw [hk, Nat.mul_one] at h1 h2
        rw [List.drop_drop] at h1 h2
        simp only [Kr] at h2
        have h3 : (p.drop (off + j))[0]? = some (.int .u8 n) := by
          have : ((p.drop (off + j)).take 1)[0]? = some (.int .u8 n) := by rw [h2]; rfl
          rw [List.getElem?_take_of_lt (by decide)] at this
          exact this
        rw [List.getElem?_drop, Nat.add_zero] at h3
        have hlt := (List.getElem?_eq_some_iff.1 h3).1
        rw [← Array.getElem?_toList, he, List.getElem?_append_left hlt]
        exact h3
    rw [List.length_map] at hl
    exact run_bytesToString w a xs.length c xs hl

theorem evCnv_ok (h : Holds w G T L) {src dst : TypeId} {x e : En} {A A' : List Adv} {O : List Prop} {v : Value} (hx : EnR G x v) (he : evCnv P src dst x A = some (e, O, A')) :
    ∃ u, (convert src dst v).run P w = .ok u w ∧ EnR G e u := by
  unfold evCnv at he
  split at he
  · rename_i el hs hd
    split at he
    · rename_i xs hu hl
      simp only [Option.some.injEq, Prod.mk.injEq] at he
      obtain ⟨rfl, rfl, rfl⟩ := he
      have hv := list_of_u8 hx hl
      have hr := bytes_run (P := P) h hv
      obtain ⟨B, c, rfl, _⟩ := list_slice hv
      refine ⟨_, ?_, mkS⟩
      unfold convert
      rw [run_und hs, run_und hd]
      simp only []
      rw [run_und hu]
      exact hr
    · cases he
  · cases he

theorem ev_ok (h : Holds w G T L) (hM : ∀ x e, M x = some e → EnR G e (ρ x)) {o : Oper} {A A' : List Adv} {e : En} {O : List Prop} (he : ev P T L M o.op A = some (e, O, A')) (hO : AllP O) :
    ∃ v, (execOp ρ o).run P w = .ok (.value v) w ∧ EnR G e v := by
  unfold ev at he
  split at he
  · rename_i x hop
    split at he
    · rename_i t p hx
      split at he
      · rename_i i A''
        simp only [Option.some.injEq, Prod.mk.injEq] at he
        obtain ⟨rfl, rfl, rfl⟩ := he
        have hp := hO.1
        have hv := hM _ _ hx
        rw [hp] at hv
        obtain ⟨u, hu, b, rfl, hb⟩ := unP hv
        refine ⟨ρ x, ?_, hv⟩
        simp [execOp, hop, hu]
      · simp at he
    · rename_i e0 _ hx
      split at he
      · rename_i e1 hn
        simp only [Option.some.injEq, Prod.mk.injEq] at he
        obtain ⟨rfl, rfl, rfl⟩ := he
        obtain ⟨h1, h2⟩ := nilC_ok (hM _ _ hx) hn
        refine ⟨ρ x, ?_, h1⟩
        rcases h2 with ⟨a, ha⟩ | ⟨f, b, c, ha⟩ <;> simp [execOp, hop, ha]
      · simp at he
    · simp at he
  · rename_i ty x hop
    split at he
    · rename_i e0 hx
      obtain ⟨u, h1, h2⟩ := evLoad_ok (P := P) h (hM _ _ hx) he hO
      exact ⟨u, by simp only [execOp, hop]; exact run_val h1, h2⟩
    · simp at he
  · rename_i ty x i hop
    split at he
    · rename_i e0 k n hx hi
      have hn := unI (hM _ _ hi)
      obtain ⟨u, h1, h2⟩ := evIx_ok (P := P) (w := w) (kn := k) (hM _ _ hx) he hO
      exact ⟨u, by simp only [execOp, hop, hn]; exact run_val h1, h2⟩
    · simp at he
  · rename_i ty x i hop
    split at he
    · rename_i s k n hu hx hi
      simp only [Option.some.injEq, Prod.mk.injEq] at he
      obtain ⟨rfl, rfl, rfl⟩ := he
      have hs := unS (hM _ _ hx)
      have hn := unI (hM _ _ hi)
      exact ⟨_, by simp only [execOp, hop, hs, hn]; exact run_val (index_run hu hO.1), mkI⟩
    · simp at he
  · rename_i ty x lo hi hop
    split at he
    · rename_i e0 a b hx hlo hhi
      obtain ⟨k1, hk1⟩ := optI_ok hM hlo
      obtain ⟨k2, hk2⟩ := optI_ok hM hhi
      obtain ⟨u, h1, h2⟩ := evSl_ok (P := P) (w := w) (k1 := k1) (k2 := k2) (hM _ _ hx) he hO
      exact ⟨u, by simp only [execOp, hop, hk1, hk2, Option.map_none]; exact run_val h1, h2⟩
    · simp at he
  · rename_i op t x y ty hop
    split at he
    · rename_i ex ey hx hy
      obtain ⟨r, h1, h2⟩ := evBin_ok (P := P) (w := w) (hM _ _ hx) (hM _ _ hy) he hO x y
      exact ⟨r, by simp only [execOp, hop]; exact run_val h1, h2⟩
    · simp at he
  · rename_i ty x i ok hop
    split at he
    · rename_i e0 kk key hx hi
      split at he
      · rename_i kk' kv m O' A'' hmp
        split at he
        · rename_i hkk
          subst hkk
          split at he
          · rename_i r hr
            simp only [Option.some.injEq, Prod.mk.injEq] at he
            obtain ⟨rfl, rfl, rfl⟩ := he
            obtain ⟨rr, es, cl, hv, hh, hm⟩ := evMap_ok h (hM _ _ hx) hmp hO
            obtain ⟨v, h1, h2⟩ := lookE_ok (P := P) hr hh hm.1 (hM _ _ hi)
            exact ⟨v, by simp only [execOp, hop, hv]; exact run_val h1, h2⟩
          · simp at he
        · simp at he
      · simp at he
    · simp at he
  · rename_i src dst x hop
    split at he
    · rename_i e0 hx
      split at he
      · rename_i r hc
        simp only [Option.some.injEq, Prod.mk.injEq] at he
        obtain ⟨rfl, rfl, rfl⟩ := he
        obtain ⟨u, h1, h2⟩ := cnv_ok (P := P) (hM _ _ hx) hc
        exact ⟨u, by simp only [execOp, hop]; exact run_val (h1 w), h2⟩
      · obtain ⟨u, h1, h2⟩ := evCnv_ok (P := P) h (hM _ _ hx) he
        exact ⟨u, by simp only [execOp, hop]; exact run_val h1, h2⟩
    · simp at he
  · split at he
    · rename_i e0 hp
      simp only [Option.some.injEq, Prod.mk.injEq] at he
      obtain ⟨rfl, rfl, rfl⟩ := he
      obtain ⟨v, h1, h2⟩ := pev_ok (P := P) hM hp
      exact ⟨v, h1 w, h2⟩
    · exact evLen_ok (P := P) h hM he hO

end
end Go.Proofs.Ytlfemhkabjafeaa.M
