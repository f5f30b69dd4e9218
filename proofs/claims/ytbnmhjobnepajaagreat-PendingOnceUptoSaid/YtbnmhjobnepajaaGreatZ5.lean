/- Own texts, laid together: PY0 PC0 PC1 PC2 PC3 PC4 PXD PXA PY1 PV2 PV5 PV6 PY2 PVW PY3 PY4 PY5 PY6 PY7 PY8 PQ0 PQ1 PQ2 PQ3. -/
import Derived.Test.YtbnmhjobnepajaaGreatZ1
import Derived.Test.YtbnmhjobnepajaaGreatZ2
import Derived.Test.YtbnmhjobnepajaaGreatZ3
import Derived.Test.YtbnmhjobnepajaaGreatZ4
set_option linter.unusedVariables false
set_option linter.unusedSimpArgs false
namespace Go.Proofs.YtbnmhjobnepajaaGreat.M

theorem w8 (x : Int) : IntKind.wrap .u8 x = x % 256 := by simp [IntKind.wrap, IntKind.bits, IntKind.signed]
theorem w64 (x : Int) : IntKind.wrap .u64 x = x % 18446744073709551616 := by simp [IntKind.wrap, IntKind.bits, IntKind.signed]

theorem Wv : ∀ b : Fin 256, ((BitVec.ofNat 8 b.val) ||| (BitVec.ofNat 8 128)).toNat = b.val % 128 + 128 := by decide +kernel
theorem SB : ∀ b : Fin 256, ((BitVec.ofNat 8 b.val) &&& (BitVec.ofNat 8 127)).toNat = b.val % 128 := by decide +kernel

theorem uw (w m : Nat) : BitVec.ofInt w (m : Int) = BitVec.ofNat w m := by
  apply BitVec.eq_of_toNat_eq
  simp

theorem acB (x : Nat) : IntKind.wrap .u8 (((BitVec.ofInt (IntKind.bits .u8) (IntKind.wrap .u8 (x : Int)) ||| BitVec.ofInt (IntKind.bits .u8) 128).toNat : Nat) : Int) = ((x % 128 + 128 : Nat) : Int) := by
  have e1 : IntKind.wrap .u8 (x : Int) = ((x % 256 : Nat) : Int) := by rw [w8]; omega
  have h : (BitVec.ofInt 8 ((x % 256 : Nat) : Int) ||| BitVec.ofInt 8 128).toNat = x % 256 % 128 + 128 := by
    rw [uw]; exact Wv ⟨x % 256, Nat.mod_lt _ (by decide)⟩
  have h2 : (BitVec.ofInt (IntKind.bits .u8) ((x % 256 : Nat) : Int) ||| BitVec.ofInt (IntKind.bits .u8) 128).toNat = x % 256 % 128 + 128 := h
  rw [e1, h2, w8]
  omega

theorem Xi {c : Nat} (hc : c < 256) : IntKind.wrap .u8 (((BitVec.ofInt (IntKind.bits .u8) (c : Int) &&& BitVec.ofInt (IntKind.bits .u8) 127).toNat : Nat) : Int) = ((c % 128 : Nat) : Int) := by
  have h : (BitVec.ofInt 8 (c : Int) &&& BitVec.ofInt 8 127).toNat = c % 128 := by
    rw [uw]; exact SB ⟨c, hc⟩
  have h2 : (BitVec.ofInt (IntKind.bits .u8) (c : Int) &&& BitVec.ofInt (IntKind.bits .u8) 127).toNat = c % 128 := h
  rw [h2, w8]
  omega

noncomputable def vbI (u : Nat) : List Int := if u < 128 then [(u : Int)] else ((u % 128 + 128 : Nat) : Int) :: vbI (u / 128)
  termination_by u
  decreasing_by omega

theorem nC {u : Nat} (h : u < 128) : vbI u = [(u : Int)] := by rw [vbI, if_pos h]
theorem wF {u : Nat} (h : ¬ u < 128) : vbI u = ((u % 128 + 128 : Nat) : Int) :: vbI (u / 128) := by rw [vbI, if_neg h]

theorem EH : ∀ {n : Nat} {k : Kd} {x : k.den} {i : Nat} {z : Int}, vI n k = true → i < n → yH k (xA k x i z) = (yH k x).set i z
  | 0, _, _, _, _, _, h => by omega
  | n + 1, k, x, i, z, hk, h => by
    unfold vI at hk
    split at hk
    · rename_i h0; cases h0
    · rename_i m b h0
      cases h0
      cases i with
      | zero => simp [xA, yH]
      | succ i =>
        have ih := EH (x := x.2) (i := i) (z := z) hk (by omega)
        simp [xA, yH, ih]
    · cases hk

theorem EG : ∀ {n : Nat} {k : Kd} {x : k.den}, vI n k = true → (yH k x).length = n
  | 0, k, x, hk => by
    cases k <;> simp [vI] at hk
    rfl
  | n + 1, k, x, hk => by
    unfold vI at hk
    split at hk
    · rename_i h0; cases h0
    · rename_i m b h0
      cases h0
      have ih := EG (x := x.2) hk
      simp [yH, ih]
    · cases hk

theorem take_set {α : Type} {l : List α} {n : Nat} (h : n < l.length) (z : α) : (l.set n z).take (n + 1) = l.take n ++ [z] := by
  rw [List.take_set, List.take_succ_eq_append_getElem h]
  rw [List.set_append_right _ _ (by simp; omega)]
  have : n - (l.take n).length = 0 := by simp; omega
  rw [this]
  rfl

theorem JP : ∀ (k x n : Nat) (y : jw.den) (pre : List Int), x < 128 ^ (k + 1) → n + k < 10 → (yH jw y).take n = pre →
    ∃ y2 : jw.den, ∃ x2 n2 : Nat, zA y (x : Int) (n : Int) = some (y2, (x2 : Int), (n2 : Int)) ∧ n2 < 10 ∧ x2 < 128 ∧ pre ++ vbI x = (yH jw y2).take n2 ++ [(x2 : Int)]
  | k, x, n, y, pre, hx, hn, hp => by
    rw [zA]
    by_cases c : x < 128
    · exact ⟨y, x, n, by rw [if_neg (by simp; omega)], by omega, c, by rw [nC c, hp]⟩
    · rw [if_pos (by simp; omega), if_pos (by omega)]
      have e1 : Int.fdiv (x : Int) (2 ^ 7) = ((x / 128 : Nat) : Int) := by
        rw [Int.fdiv_eq_ediv_of_nonneg _ (by decide)]; norm_cast
      have hw : IntKind.wrap .i64 ((n : Int) + 1) = ((n + 1 : Nat) : Int) := by rw [aO (by omega) (by omega)]; omega
      have hi : Int.toNat (n : Int) = n := by omega
      rw [e1, hw, acB, hi]
      cases k with
      | zero => simp at hx; omega
      | succ k =>
        have hA : vI 10 jw = true := rfl
        obtain ⟨y2, x2, n2, i1, i2, i3, i4⟩ := JP k (x / 128) (n + 1) (xA jw y n ((x % 128 + 128 : Nat) : Int)) (pre ++ [((x % 128 + 128 : Nat) : Int)]) (by rw [Nat.div_lt_iff_lt_mul (by decide)]; rw [Nat.pow_succ] at hx; exact hx) (by omega) (by
          rw [EH hA (by omega), take_set (by rw [EG hA]; omega), hp])
        refine ⟨y2, x2, n2, i1, i2, i3, ?_⟩
        rw [wF c, ← i4]; simp

noncomputable def mJ (n : Nat) : List UInt8 := bT (vbI (2 * n))

theorem JO {n : Nat} (hn : n < 9223372036854775808) : f90 (n : Int) = some (mJ n) := by
  unfold f90
  have c : ¬ ((n : Int) < 0) := by omega
  have e1 : IntKind.wrap .u64 (IntKind.wrap .u64 (n : Int) * 2 ^ 1) = ((2 * n : Nat) : Int) := by
    rw [w64, w64]; omega
  rw [if_neg (by simp), e1]
  simp only [Option.bind_eq_bind, Option.bind_some]
  obtain ⟨y2, x2, n2, h1, h2, h3, h4⟩ := JP 9 (2 * n) 0 (0, 0, 0, 0, 0, 0, 0, 0, 0, 0, ()) [] (by omega) (by omega) rfl
  rw [show (((0 : Nat) : Int)) = (0 : Int) from rfl] at h1
  rw [h1]
  simp only [Option.bind_some]
  have hw : IntKind.wrap .i64 ((n2 : Int) + 1) = ((n2 + 1 : Nat) : Int) := by rw [aO (by omega) (by omega)]; omega
  rw [hw, if_pos (by omega), if_pos (by omega)]
  have hA : vI 10 jw = true := rfl
  have hi : Int.toNat (n2 : Int) = n2 := by omega
  have hi2 : Int.toNat ((n2 + 1 : Nat) : Int) = n2 + 1 := by omega
  have hz : IntKind.wrap .u8 (x2 : Int) = (x2 : Int) := by rw [w8]; omega
  rw [hi, hi2, hz, EH hA h2, take_set (by rw [EG hA]; exact h2), ← h4]
  rfl

theorem Vq : ∀ (k u : Nat), u < 128 ^ (k + 1) → (vbI u).length ≤ k + 1 := by
  intro k
  induction k with
  | zero => intro u h; rw [nC (by simpa using h)]; simp
  | succ k ih =>
    intro u h
    by_cases c : u < 128
    · rw [nC c]; simp
    · rw [wF c, List.length_cons]
      have := ih (u / 128) (by rw [Nat.div_lt_iff_lt_mul (by decide)]; rw [Nat.pow_succ] at h; exact h)
      omega

theorem uY {n : Nat} (h : n < 9223372036854775808) : (mJ n).length ≤ 10 := by
  unfold mJ bT
  rw [List.length_map]
  exact Vq 9 (2 * n) (by omega)

theorem Vr (u : Nat) : 0 < (vbI u).length := by
  by_cases c : u < 128
  · rw [nC c]; simp
  · rw [wF c]; simp

theorem Vo {c : Nat} (h : c < 256) : (UInt8.ofNat ((c : Nat) : Int).toNat).toNat = c := by
  have : ((c : Nat) : Int).toNat = c := by omega
  rw [this, UInt8.toNat_ofNat_of_lt' (by show c < 256; exact h)]

theorem Y2 {a b i : Nat} (h : a < 2 ^ i) (hs : a + b * 2 ^ i < 2 ^ 64) : (BitVec.ofInt (IntKind.bits .u64) (a : Int) ||| BitVec.ofInt (IntKind.bits .u64) ((b * 2 ^ i : Nat) : Int)).toNat = a + b * 2 ^ i := by
  have e1 : BitVec.ofInt (IntKind.bits .u64) (a : Int) = BitVec.ofNat 64 a := uw 64 a
  have e2 : BitVec.ofInt (IntKind.bits .u64) ((b * 2 ^ i : Nat) : Int) = BitVec.ofNat 64 (b * 2 ^ i) := uw 64 _
  rw [e1, e2]
  show (BitVec.ofNat 64 a ||| BitVec.ofNat 64 (b * 2 ^ i)).toNat = _
  rw [BitVec.toNat_or, BitVec.toNat_ofNat, BitVec.toNat_ofNat, Nat.mod_eq_of_lt (by omega), Nat.mod_eq_of_lt (by omega)]
  have := Nat.two_pow_add_eq_or_of_lt h b
  rw [Nat.or_comm, Nat.mul_comm b, ← this]; omega

theorem and_one (x : Nat) (hx : x < 2 ^ 64) : (BitVec.ofInt (IntKind.bits .u64) (x : Int) &&& BitVec.ofInt (IntKind.bits .u64) 1).toNat = x % 2 := by
  have e1 : BitVec.ofInt (IntKind.bits .u64) (x : Int) = BitVec.ofNat 64 x := uw 64 x
  have e2 : BitVec.ofInt (IntKind.bits .u64) 1 = BitVec.ofNat 64 1 := rfl
  rw [e1, e2]
  show (BitVec.ofNat 64 x &&& BitVec.ofNat 64 1).toNat = _
  rw [BitVec.toNat_and, BitVec.toNat_ofNat, BitVec.toNat_ofNat, Nat.mod_eq_of_lt hx, Nat.mod_eq_of_lt (by decide), Nat.and_one_is_mod]

theorem OD {s : List UInt8} {n : Nat} {c : UInt8} {r : List UInt8} (h : s.drop n = c :: r) : n < s.length ∧ btS s (n : Int) = (c.toNat : Int) ∧ s.drop (n + 1) = r := by
  have hl : n < s.length := by
    rcases Nat.lt_or_ge n s.length with h1 | h1
    · exact h1
    · rw [List.drop_of_length_le h1] at h; cases h
  have h2 : s.drop n = s[n] :: s.drop (n + 1) := by simp
  rw [h] at h2
  injection h2 with h3 h4
  exact ⟨hl, by rw [AU hl, h3], h4.symm⟩

theorem VW (s : List UInt8) (p : Nat) (hs : s.length < 9223372036854775808) : ∀ (u i acc : Nat) (rest : List UInt8), s.drop (p + i) = bT (vbI u) ++ rest → acc < 2 ^ (7 * i) → acc + u * 2 ^ (7 * i) < 2 ^ 63 → (acc + u * 2 ^ (7 * i)) % 2 = 0 → (0 < i → u ≠ 0) →
    nP s (p : Int) (acc : Int) (i : Int) = some (.inr ((((acc + u * 2 ^ (7 * i)) / 2 : Nat) : Int), ((p + i + (vbI u).length : Nat) : Int), 0)) := by
  intro u
  induction u using Nat.strongRecOn with
  | ind u ih =>
    intro i acc rest hd ha ht hev hu
    have hi : i < 9 := by
      by_cases h0 : i = 0
      · omega
      · have hu1 : 1 ≤ u := by have := hu (by omega); omega
        have h1 : 2 ^ (7 * i) ≤ u * 2 ^ (7 * i) := Nat.le_mul_of_pos_left _ hu1
        have h2 : 2 ^ (7 * i) < 2 ^ 63 := by omega
        have := (Nat.pow_lt_pow_iff_right (a := 2) (by decide)).1 h2
        omega
    rw [nP]
    have hhead : ∃ c : Nat, ∃ r, c < 256 ∧ s.drop (p + i) = (UInt8.ofNat ((c : Nat) : Int).toNat) :: r ∧ (u < 128 → c = u ∧ r = rest) ∧ (¬ u < 128 → c = u % 128 + 128 ∧ r = bT (vbI (u / 128)) ++ rest) := by
      by_cases c : u < 128
      · exact ⟨u, rest, by omega, by rw [hd, nC c]; rfl, fun _ => ⟨rfl, rfl⟩, fun h => absurd c h⟩
      · exact ⟨u % 128 + 128, bT (vbI (u / 128)) ++ rest, by omega, by rw [hd, wF c]; rfl, fun h => absurd h c, fun _ => ⟨rfl, rfl⟩⟩
    obtain ⟨c, r, hc, hd2, hsm, hbg⟩ := hhead
    obtain ⟨h1, h2, h3⟩ := OD hd2
    rw [Vo hc] at h2
    have hw : IntKind.wrap .i64 ((p : Int) + (i : Int)) = ((p + i : Nat) : Int) := by rw [aO (by omega) (by omega)]; omega
    have hw7 : IntKind.wrap .i64 (7 * (i : Int)) = ((7 * i : Nat) : Int) := by rw [aO (by omega) (by omega)]; omega
    have hw1 : IntKind.wrap .i64 ((i : Int) + 1) = ((i + 1 : Nat) : Int) := by rw [aO (by omega) (by omega)]; omega
    have hmin : min (Int.toNat ((7 * i : Nat) : Int)) (IntKind.bits .u64) = 7 * i := by
      have : Int.toNat ((7 * i : Nat) : Int) = 7 * i := by omega
      rw [this]
      show min (7 * i) 64 = 7 * i
      omega
    rw [hw, hw7, hw1, h2, hmin, Xi hc]
    rw [if_pos (by simp; omega), if_pos (by omega), if_neg (by simp; omega), if_pos (by omega)]
    have hb : c % 128 ≤ u := by
      by_cases cc : u < 128
      · have := (hsm cc).1; omega
      · have := (hbg cc).1; omega
    have hle : (c % 128) * 2 ^ (7 * i) ≤ u * 2 ^ (7 * i) := Nat.mul_le_mul_right _ hb
    have e1 : IntKind.wrap .u64 (IntKind.wrap .u64 ((c % 128 : Nat) : Int) * 2 ^ (7 * i)) = (((c % 128) * 2 ^ (7 * i) : Nat) : Int) := by
      have e : IntKind.wrap .u64 ((c % 128 : Nat) : Int) = ((c % 128 : Nat) : Int) := by rw [w64]; omega
      have e0 : ((c % 128 : Nat) : Int) * 2 ^ (7 * i) = (((c % 128) * 2 ^ (7 * i) : Nat) : Int) := by push_cast; rfl
      rw [e, e0, w64]
      have : (((c % 128) * 2 ^ (7 * i) : Nat) : Int) < 18446744073709551616 := by
        have : (c % 128) * 2 ^ (7 * i) < 2 ^ 63 := by omega
        have h63 : (2 : Nat) ^ 63 < 18446744073709551616 := by decide
        omega
      omega
    have e2 : IntKind.wrap .u64 (((BitVec.ofInt (IntKind.bits .u64) (acc : Int) ||| BitVec.ofInt (IntKind.bits .u64) (((c % 128) * 2 ^ (7 * i) : Nat) : Int)).toNat : Nat) : Int) = ((acc + (c % 128) * 2 ^ (7 * i) : Nat) : Int) := by
      rw [Y2 ha (by have : (2 : Nat) ^ 63 < 2 ^ 64 := by decide
                    omega), w64]
      have h63 : (2 : Nat) ^ 63 < 18446744073709551616 := by decide
      omega
    rw [e1, e2]
    by_cases cc : u < 128
    · obtain ⟨rfl, rfl⟩ := hsm cc
      have hm : c % 128 = c := by omega
      rw [if_neg (by simp; omega), if_neg (by simp only [Bool.and_eq_true, beq_iff_eq, decide_eq_true_eq, not_and]; intro h4 h5; exact hu (by omega) (by omega)), hm, nC cc]
      have h63 : (2 : Nat) ^ 63 < 2 ^ 64 := by decide
      rw [and_one _ (by omega), hev]
      have hne : ¬ ((IntKind.wrap .u64 ((0 : Nat) : Int) == 1) = true) := by decide
      rw [if_neg hne]
      simp only [Option.bind_eq_bind, Option.bind_some]
      have e3 : Int.fdiv ((acc + c * 2 ^ (7 * i) : Nat) : Int) (2 ^ 1) = (((acc + c * 2 ^ (7 * i)) / 2 : Nat) : Int) := by
        rw [Int.fdiv_eq_ediv_of_nonneg _ (by decide)]; norm_cast
      have h64 : (2 : Nat) ^ 63 = 9223372036854775808 := by decide
      rw [e3, aO (by omega) (by omega), aO (by omega) (by omega)]
      simp
    · obtain ⟨rfl, rfl⟩ := hbg cc
      rw [if_pos (by simp; omega)]
      have hm : (u % 128 + 128) % 128 = u % 128 := by omega
      rw [hm]
      have hsum : acc + u % 128 * 2 ^ (7 * i) + u / 128 * 2 ^ (7 * (i + 1)) = acc + u * 2 ^ (7 * i) := by
        have e : 2 ^ (7 * (i + 1)) = 128 * 2 ^ (7 * i) := by rw [Nat.mul_add, Nat.pow_add, Nat.mul_comm]
        rw [e, Nat.add_assoc, ← Nat.mul_assoc, ← Nat.add_mul]
        congr 2
        omega
      have hlt : acc + u % 128 * 2 ^ (7 * i) < 2 ^ (7 * (i + 1)) := by
        have e : 2 ^ (7 * (i + 1)) = 128 * 2 ^ (7 * i) := by rw [Nat.mul_add, Nat.pow_add, Nat.mul_comm]
        have h5 : u % 128 * 2 ^ (7 * i) ≤ 127 * 2 ^ (7 * i) := Nat.mul_le_mul_right _ (by omega)
        rw [e]; omega
      have := ih (u / 128) (by omega) (i + 1) (acc + u % 128 * 2 ^ (7 * i)) rest (by rw [← Nat.add_assoc]; exact h3) hlt (by rw [hsum]; exact ht) (by rw [hsum]; exact hev) (fun _ => by omega)
      rw [hsum] at this
      rw [this, wF cc, List.length_cons]
      congr 5
      omega

theorem JM (s : List UInt8) (p : Nat) (hs : s.length < 9223372036854775808) : ∀ (t : List UInt8) (i : Nat) (acc : Int), s.drop (p + i) = t → p + i ≤ s.length → (∀ c ∈ t, 128 ≤ c.toNat) → i + t.length ≤ 9 →
    ∃ z, nP s (p : Int) acc (i : Int) = some (.inl z)
  | [], i, acc, hd, hp, ht, hi => by
    rw [nP]
    have hl : s.length ≤ p + i := by
      have := congrArg List.length hd
      rw [List.length_drop] at this
      simp only [List.length_nil] at this
      omega
    have hw : IntKind.wrap .i64 ((p : Int) + (i : Int)) = ((p + i : Nat) : Int) := by rw [aO (by omega) (by simp at hi; omega)]; omega
    rw [hw, if_neg (by simp; omega)]
    exact ⟨_, rfl⟩
  | c :: r, i, acc, hd, hp, ht, hi => by
    rw [nP]
    obtain ⟨h1, h2, h3⟩ := OD hd
    have hc := ht c List.mem_cons_self
    simp only [List.length_cons] at hi
    have hw : IntKind.wrap .i64 ((p : Int) + (i : Int)) = ((p + i : Nat) : Int) := by rw [aO (by omega) (by omega)]; omega
    have hw7 : IntKind.wrap .i64 (7 * (i : Int)) = ((7 * i : Nat) : Int) := by rw [aO (by omega) (by omega)]; omega
    have hw1 : IntKind.wrap .i64 ((i : Int) + 1) = ((i + 1 : Nat) : Int) := by rw [aO (by omega) (by omega)]; omega
    rw [hw, hw7, hw1, h2, if_pos (by simp; omega), if_pos (by omega), if_neg (by simp; omega), if_pos (by omega), if_pos (by simp; omega)]
    exact JM s p hs r (i + 1) _ (by rw [← Nat.add_assoc]; exact h3) (by omega) (fun x hx => ht x (List.mem_cons_of_mem _ hx)) (by omega)

theorem WW (u : Nat) : ∃ pre l, bT (vbI u) = pre ++ [l] ∧ ∀ c ∈ pre, 128 ≤ UInt8.toNat c := by
  induction u using Nat.strongRecOn with
  | ind u ih =>
    by_cases c : u < 128
    · exact ⟨[], _, by rw [nC c]; rfl, by simp⟩
    · obtain ⟨pre, l, h1, h2⟩ := ih (u / 128) (by omega)
      refine ⟨UInt8.ofNat (((u % 128 + 128 : Nat) : Int).toNat) :: pre, l, ?_, ?_⟩
      · rw [wF c]
        show _ :: bT (vbI (u / 128)) = _
        rw [h1]; rfl
      · intro x hx
        rcases List.mem_cons.1 hx with rfl | hx
        · rw [Vo (by omega)]; omega
        · exact h2 x hx

theorem QB {s : List UInt8} {p k : Nat} {rest : List UInt8} (hs : s.length < 9223372036854775808) (hk : k < 4611686018427387904) (hp : p ≤ s.length) (hd : s.drop p = mJ k ++ rest) :
    f113 s (p : Int) = some ((k : Int), ((p + (mJ k).length : Nat) : Int), 0) := by
  unfold f113
  rw [if_neg (by simp; omega)]
  have := VW s p hs (2 * k) 0 0 rest (by simpa [mJ] using hd) (by simp) (by simp; omega) (by simp) (by simp)
  rw [show (((0 : Nat) : Int)) = (0 : Int) from rfl] at this
  rw [this]
  simp [mJ, bT]

theorem VV {s : List UInt8} {p k : Nat} {t : List UInt8} (hs : s.length < 9223372036854775808) (hk : k < 4611686018427387904) (hp : p ≤ s.length) (hd : s.drop p = t) (ht : t <+: mJ k) (hn : t.length < (mJ k).length) :
    f113 s (p : Int) = some (0, 0, 5) := by
  unfold f113
  rw [if_neg (by simp; omega)]
  obtain ⟨pre, l, h1, h2⟩ := WW (2 * k)
  have h3 : mJ k = pre ++ [l] := h1
  have hl := uY (n := k) (by omega)
  have h4 : t <+: pre := by
    rw [h3] at ht hn
    rw [List.length_append] at hn
    simp only [List.length_cons, List.length_nil] at hn
    exact List.prefix_of_prefix_length_le ht (List.prefix_append _ _) (by omega)
  obtain ⟨z, hz⟩ := JM s p hs t 0 0 (by simpa using hd) (by omega) (fun c hc => h2 c (h4.subset hc)) (by omega)
  rw [show (((0 : Nat) : Int)) = (0 : Int) from rfl] at hz
  rw [hz]
  rfl
end Go.Proofs.YtbnmhjobnepajaaGreat.M


namespace Go.Proofs.YtbnmhjobnepajaaGreat.M

theorem FM {s γ : Type} {f : s → Option (s ⊕ γ)} (x : s) : bC f x = (f x).bind (Sum.elim (fun y => bC f y) some) := by
  rw [bC]
  show (f x).bind _ = _
  cases f x with
  | none => rfl
  | some y => cases y <;> rfl

theorem ng {s γ : Type} {f : s → Option (s ⊕ γ)} {x y : s} (h : f x = some (.inl y)) : bC f x = bC f y := by rw [FM, h]; rfl
theorem kH {s γ : Type} {f : s → Option (s ⊕ γ)} {x : s} {r : γ} (h : f x = some (.inr r)) : bC f x = some r := by rw [FM, h]; rfl

noncomputable def yE {α : Type} (P : Nat → α → Bool) : Nat → List α → Bool
  | _, [] => true
  | i, x :: r => P i x && yE P (i + 1) r
theorem EF {α : Type} {P : α → Bool} : ∀ {i : Nat} {l : List α}, yE (fun _ x => P x) i l = l.all P
  | _, [] => rfl
  | i, x :: r => by rw [yE, List.all_cons, EF]
theorem fJ {i : Nat} (h : i < 9223372036854775807) : IntKind.wrap .i64 ((i : Int) + 1) = ((i + 1 : Nat) : Int) := by rw [aO (by omega) (by omega)]; omega

theorem Uy {α β : Type} {l : List α} {F : Int → Option (Int ⊕ (Unit ⊕ β))} (P : Nat → α → Bool) {e : β} (hF : ∀ i (h : i < l.length), F (i : Int) = some (if P i l[i] = true then .inl ((i + 1 : Nat) : Int) else .inr (.inr e))) (hE : F (l.length : Int) = some (.inr (.inl ()))) :
    ∀ (k i : Nat), i + k = l.length → bC F (i : Int) = some (if yE P i (l.drop i) = true then .inl () else .inr e)
  | 0, i, hi => by
    have : i = l.length := by omega
    subst this
    rw [FM, hE]
    simp [yE]
  | k + 1, i, hi => by
    have hl : i < l.length := by omega
    have hd : l.drop i = l[i] :: l.drop (i + 1) := by simp
    rw [FM, hF i hl, hd]
    by_cases hp : P i l[i] = true
    · rw [if_pos hp]
      show bC F (((i + 1 : Nat)) : Int) = _
      rw [Uy P hF hE k (i + 1) (by omega)]
      simp only [yE, hp, Bool.true_and]
    · rw [if_neg hp]
      simp [yE, hp]
theorem SK {α β : Type} {l : List α} {F : Int → Option (Int ⊕ (Unit ⊕ β))} (P : Nat → α → Bool) {e : β} (hF : ∀ i (h : i < l.length), F (i : Int) = some (if P i l[i] = true then .inl ((i + 1 : Nat) : Int) else .inr (.inr e))) (hE : F (l.length : Int) = some (.inr (.inl ()))) :
    bC F 0 = some (if yE P 0 l = true then .inl () else .inr e) := by
  have := Uy P hF hE l.length 0 (by omega)
  simpa using this

noncomputable def zz (n : Int) : Nat := if 0 ≤ n then (2 * n).toNat else (-2 * n - 1).toNat
noncomputable def unz (u : Nat) : Int := if u % 2 = 0 then ((u / 2 : Nat) : Int) else -((u / 2 : Nat) : Int) - 1
theorem ab6 (n : Int) : unz (zz n) = n := by
  unfold unz zz
  split <;> split <;> omega
noncomputable def zI (n : Int) : List Int := vbI (zz n)
noncomputable def eU (n : Int) : List UInt8 := bT (zI n)
theorem aaZ {n : Int} (h1 : -9223372036854775808 ≤ n) (h2 : n < 9223372036854775808) : zz n < 18446744073709551616 := by
  unfold zz; split <;> omega
theorem acz {x : Nat} (h : x < 18446744073709551616) : ((BitVec.ofInt (IntKind.bits .u64) (if IntKind.signed .u64 = true then -1 else IntKind.max .u64) ^^^ BitVec.ofInt (IntKind.bits .u64) (x : Int)).toNat : Int) = 18446744073709551615 - (x : Int) := by
  have e1 : BitVec.ofInt (IntKind.bits .u64) (x : Int) = BitVec.ofNat 64 x := uw 64 x
  have e2 : BitVec.ofInt (IntKind.bits .u64) (if IntKind.signed .u64 = true then -1 else IntKind.max .u64) = BitVec.allOnes 64 := by rfl
  rw [e1, e2]
  show ((BitVec.allOnes 64 ^^^ BitVec.ofNat 64 x).toNat : Int) = _
  rw [BitVec.allOnes_xor, BitVec.toNat_not, BitVec.toNat_ofNat, Nat.mod_eq_of_lt (by omega)]
  omega
theorem abW {x : Nat} (h : x < 9223372036854775808) : IntKind.wrap .i64 ((BitVec.ofInt (IntKind.bits .i64) (if IntKind.signed .i64 = true then -1 else IntKind.max .i64) ^^^ BitVec.ofInt (IntKind.bits .i64) (x : Int)).toNat : Int) = -(x : Int) - 1 := by
  have e1 : BitVec.ofInt (IntKind.bits .i64) (x : Int) = BitVec.ofNat 64 x := uw 64 x
  have e2 : BitVec.ofInt (IntKind.bits .i64) (if IntKind.signed .i64 = true then -1 else IntKind.max .i64) = BitVec.allOnes 64 := by rfl
  rw [e1, e2]
  show IntKind.wrap .i64 ((BitVec.allOnes 64 ^^^ BitVec.ofNat 64 x).toNat : Int) = _
  rw [BitVec.allOnes_xor, BitVec.toNat_not, BitVec.toNat_ofNat, Nat.mod_eq_of_lt (by omega), IntKind.wrap_i64]
  omega

theorem aam {n : Int} (h1 : -9223372036854775808 ≤ n) (h2 : n < 9223372036854775808) : f90 n = some (eU n) := by
  unfold f90
  have e1 : (if (decide (n < 0)) = true then some (IntKind.wrap .u64 ((BitVec.ofInt (IntKind.bits .u64) (if IntKind.signed .u64 = true then -1 else IntKind.max .u64) ^^^ BitVec.ofInt (IntKind.bits .u64) (IntKind.wrap .u64 ((IntKind.wrap .u64 (n)) * 2 ^ 1))).toNat)) else some (IntKind.wrap .u64 ((IntKind.wrap .u64 (n)) * 2 ^ 1)) : Option Int) = some ((zz n : Nat) : Int) := by
    by_cases c : n < 0
    · have e2 : IntKind.wrap .u64 (IntKind.wrap .u64 n * 2 ^ 1) = ((18446744073709551616 + 2 * n).toNat : Int) := by
        rw [w64, w64]; omega
      rw [if_pos (by simpa using c), e2, acz (by omega), w64]
      congr 1
      unfold zz
      rw [if_neg (by omega)]
      omega
    · rw [if_neg (by simpa using c), w64, w64]
      congr 1
      unfold zz
      rw [if_pos (by omega)]
      omega
  rw [e1]
  simp only [Option.bind_eq_bind, Option.bind_some]
  obtain ⟨y2, x2, n2, g1, g2, g3, g4⟩ := JP 9 (zz n) 0 (0, 0, 0, 0, 0, 0, 0, 0, 0, 0, ()) [] (by have := aaZ h1 h2; omega) (by omega) rfl
  rw [show (((0 : Nat) : Int)) = (0 : Int) from rfl] at g1
  rw [g1]
  simp only [Option.bind_some]
  have hw : IntKind.wrap .i64 ((n2 : Int) + 1) = ((n2 + 1 : Nat) : Int) := by rw [aO (by omega) (by omega)]; omega
  rw [hw, if_pos (by omega), if_pos (by omega)]
  have hA : vI 10 jw = true := rfl
  have hi : Int.toNat (n2 : Int) = n2 := by omega
  have hi2 : Int.toNat ((n2 + 1 : Nat) : Int) = n2 + 1 := by omega
  have hz : IntKind.wrap .u8 (x2 : Int) = (x2 : Int) := by rw [w8]; omega
  rw [hi, hi2, hz, EH hA g2, take_set (by rw [EG hA]; exact g2), ← g4]
  rfl

theorem xE {n : Int} (h1 : -9223372036854775808 ≤ n) (h2 : n < 9223372036854775808) : (zI n).length ≤ 10 := by
  refine Vq 9 (zz n) ?_
  have := aaZ h1 h2
  omega
theorem Zu (u : Nat) : ∀ x ∈ vbI u, 0 ≤ x ∧ x < 256 := by
  induction u using Nat.strongRecOn with
  | ind u ih =>
    intro x hx
    by_cases c : u < 128
    · rw [nC c] at hx
      simp only [List.mem_singleton] at hx
      omega
    · rw [wF c] at hx
      rcases List.mem_cons.1 hx with rfl | hx
      · omega
      · exact ih _ (by omega) x hx
theorem TP {l : List Int} (h : ∀ x ∈ l, 0 ≤ x ∧ x < 256) : jS (bT l) = l := by
  unfold jS bT
  rw [List.map_map]
  refine (List.map_congr_left fun x hx => ?_).trans (List.map_id l)
  obtain ⟨h1, h2⟩ := h x hx
  simp only [Function.comp, id]
  have := Vo (c := x.toNat) (by omega)
  have e : ((x.toNat : Nat) : Int) = x := by omega
  rw [e] at this
  omega
theorem GZ (n : Int) : jS (eU n) = zI n := TP (Zu _)
theorem SH (s : List UInt8) : bT (jS s) = s := by
  unfold jS bT
  rw [List.map_map]
  refine (List.map_congr_left fun x hx => ?_).trans (List.map_id s)
  simp
theorem wH (a b : List Int) : bT (a ++ b) = bT a ++ bT b := by unfold bT; rw [List.map_append]
theorem y8 (s : List UInt8) : (jS s).length = s.length := by simp [jS]
theorem Gt (s : List Int) : (bT s).length = s.length := by simp [bT]
end Go.Proofs.YtbnmhjobnepajaaGreat.M


namespace Go.Proofs.YtbnmhjobnepajaaGreat.M

theorem Tj (s : List UInt8) (p : Nat) (hs : s.length < 9223372036854775808) : ∀ (u i acc : Nat) (rest : List UInt8), s.drop (p + i) = bT (vbI u) ++ rest → acc < 2 ^ (7 * i) → acc + u * 2 ^ (7 * i) < 2 ^ 63 → (0 < i → u ≠ 0) →
    nP s (p : Int) (acc : Int) (i : Int) = some (.inr (unz (acc + u * 2 ^ (7 * i)), ((p + i + (vbI u).length : Nat) : Int), 0)) := by
  intro u
  induction u using Nat.strongRecOn with
  | ind u ih =>
    intro i acc rest hd ha ht hu
    have hi : i < 9 := by
      by_cases h0 : i = 0
      · omega
      · have hu1 : 1 ≤ u := by have := hu (by omega); omega
        have h1 : 2 ^ (7 * i) ≤ u * 2 ^ (7 * i) := Nat.le_mul_of_pos_left _ hu1
        have h2 : 2 ^ (7 * i) < 2 ^ 63 := by omega
        have := (Nat.pow_lt_pow_iff_right (a := 2) (by decide)).1 h2
        omega
    rw [nP]
    have hhead : ∃ c : Nat, ∃ r, c < 256 ∧ s.drop (p + i) = (UInt8.ofNat ((c : Nat) : Int).toNat) :: r ∧ (u < 128 → c = u ∧ r = rest) ∧ (¬ u < 128 → c = u % 128 + 128 ∧ r = bT (vbI (u / 128)) ++ rest) := by
      by_cases c : u < 128
      · exact ⟨u, rest, by omega, by rw [hd, nC c]; rfl, fun _ => ⟨rfl, rfl⟩, fun h => absurd c h⟩
      · exact ⟨u % 128 + 128, bT (vbI (u / 128)) ++ rest, by omega, by rw [hd, wF c]; rfl, fun h => absurd h c, fun _ => ⟨rfl, rfl⟩⟩
    obtain ⟨c, r, hc, hd2, hsm, hbg⟩ := hhead
    obtain ⟨h1, h2, h3⟩ := OD hd2
    rw [Vo hc] at h2
    have hw : IntKind.wrap .i64 ((p : Int) + (i : Int)) = ((p + i : Nat) : Int) := by rw [aO (by omega) (by omega)]; omega
    have hw7 : IntKind.wrap .i64 (7 * (i : Int)) = ((7 * i : Nat) : Int) := by rw [aO (by omega) (by omega)]; omega
    have hw1 : IntKind.wrap .i64 ((i : Int) + 1) = ((i + 1 : Nat) : Int) := by rw [aO (by omega) (by omega)]; omega
    have hmin : min (Int.toNat ((7 * i : Nat) : Int)) (IntKind.bits .u64) = 7 * i := by
      have : Int.toNat ((7 * i : Nat) : Int) = 7 * i := by omega
      rw [this]
      show min (7 * i) 64 = 7 * i
      omega
    rw [hw, hw7, hw1, h2, hmin, Xi hc]
    rw [if_pos (by simp; omega), if_pos (by omega), if_neg (by simp; omega), if_pos (by omega)]
    have hb : c % 128 ≤ u := by
      by_cases cc : u < 128
      · have := (hsm cc).1; omega
      · have := (hbg cc).1; omega
    have hle : (c % 128) * 2 ^ (7 * i) ≤ u * 2 ^ (7 * i) := Nat.mul_le_mul_right _ hb
    have e1 : IntKind.wrap .u64 (IntKind.wrap .u64 ((c % 128 : Nat) : Int) * 2 ^ (7 * i)) = (((c % 128) * 2 ^ (7 * i) : Nat) : Int) := by
      have e : IntKind.wrap .u64 ((c % 128 : Nat) : Int) = ((c % 128 : Nat) : Int) := by rw [w64]; omega
      have e0 : ((c % 128 : Nat) : Int) * 2 ^ (7 * i) = (((c % 128) * 2 ^ (7 * i) : Nat) : Int) := by push_cast; rfl
      rw [e, e0, w64]
      have : (((c % 128) * 2 ^ (7 * i) : Nat) : Int) < 18446744073709551616 := by
        have : (c % 128) * 2 ^ (7 * i) < 2 ^ 63 := by omega
        have h63 : (2 : Nat) ^ 63 < 18446744073709551616 := by decide
        omega
      omega
    have e2 : IntKind.wrap .u64 (((BitVec.ofInt (IntKind.bits .u64) (acc : Int) ||| BitVec.ofInt (IntKind.bits .u64) (((c % 128) * 2 ^ (7 * i) : Nat) : Int)).toNat : Nat) : Int) = ((acc + (c % 128) * 2 ^ (7 * i) : Nat) : Int) := by
      rw [Y2 ha (by have : (2 : Nat) ^ 63 < 2 ^ 64 := by decide
                    omega), w64]
      have h63 : (2 : Nat) ^ 63 < 18446744073709551616 := by decide
      omega
    rw [e1, e2]
    by_cases cc : u < 128
    · obtain ⟨rfl, rfl⟩ := hsm cc
      have hm : c % 128 = c := by omega
      rw [if_neg (by simp; omega), if_neg (by simp only [Bool.and_eq_true, beq_iff_eq, decide_eq_true_eq, not_and]; intro h4 h5; exact hu (by omega) (by omega)), hm, nC cc]
      have h63 : (2 : Nat) ^ 63 < 2 ^ 64 := by decide
      have h64 : (2 : Nat) ^ 63 = 9223372036854775808 := by decide
      rw [and_one _ (by omega)]
      generalize hT : acc + c * 2 ^ (7 * i) = T at *
      have e3 : Int.fdiv ((T : Nat) : Int) (2 ^ 1) = ((T / 2 : Nat) : Int) := by
        rw [Int.fdiv_eq_ediv_of_nonneg _ (by decide)]; norm_cast
      have hl : IntKind.wrap .i64 (((p + i : Nat) : Int) + 1) = ((p + i + 1 : Nat) : Int) := by rw [aO (by omega) (by omega)]; omega
      rw [e3, hl]
      by_cases hev : T % 2 = 0
      · have hne : ¬ ((IntKind.wrap .u64 ((T % 2 : Nat) : Int) == 1) = true) := by rw [hev]; decide
        rw [if_neg hne]
        simp only [Option.bind_eq_bind, Option.bind_some]
        rw [aO (by omega) (by omega)]
        unfold unz
        rw [if_pos hev]
        simp
      · have hp : (IntKind.wrap .u64 ((T % 2 : Nat) : Int) == 1) = true := by rw [show T % 2 = 1 by omega]; decide
        rw [if_pos hp]
        simp only [Option.bind_eq_bind, Option.bind_some]
        rw [aO (x := ((T / 2 : Nat) : Int)) (by omega) (by omega), abW (by omega)]
        unfold unz
        rw [if_neg hev]
        simp
    · obtain ⟨rfl, rfl⟩ := hbg cc
      rw [if_pos (by simp; omega)]
      have hm : (u % 128 + 128) % 128 = u % 128 := by omega
      rw [hm]
      have hsum : acc + u % 128 * 2 ^ (7 * i) + u / 128 * 2 ^ (7 * (i + 1)) = acc + u * 2 ^ (7 * i) := by
        have e : 2 ^ (7 * (i + 1)) = 128 * 2 ^ (7 * i) := by rw [Nat.mul_add, Nat.pow_add, Nat.mul_comm]
        rw [e, Nat.add_assoc, ← Nat.mul_assoc, ← Nat.add_mul]
        congr 2
        omega
      have hlt : acc + u % 128 * 2 ^ (7 * i) < 2 ^ (7 * (i + 1)) := by
        have e : 2 ^ (7 * (i + 1)) = 128 * 2 ^ (7 * i) := by rw [Nat.mul_add, Nat.pow_add, Nat.mul_comm]
        have h5 : u % 128 * 2 ^ (7 * i) ≤ 127 * 2 ^ (7 * i) := Nat.mul_le_mul_right _ (by omega)
        rw [e]; omega
      have := ih (u / 128) (by omega) (i + 1) (acc + u % 128 * 2 ^ (7 * i)) rest (by rw [← Nat.add_assoc]; exact h3) hlt (by rw [hsum]; exact ht) (fun _ => by omega)
      rw [hsum] at this
      rw [this, wF cc, List.length_cons]
      congr 5
      omega

theorem VU {s : List UInt8} {p : Nat} {n : Int} {rest : List UInt8} (hs : s.length < 9223372036854775808) (h1 : -2199023255552 ≤ n) (h2 : n ≤ 2199023255552) (hp : p ≤ s.length) (hd : s.drop p = eU n ++ rest) :
    f113 s (p : Int) = some (n, ((p + (eU n).length : Nat) : Int), 0) := by
  unfold f113
  rw [if_neg (by simp; omega)]
  have hz : zz n < 4611686018427387904 := by unfold zz; split <;> omega
  have := Tj s p hs (zz n) 0 0 rest (by simpa [eU, zI] using hd) (by simp) (by simp; omega) (by simp)
  simp only [Nat.zero_add, Nat.mul_zero, Nat.pow_zero, Nat.mul_one, Nat.add_zero, ab6] at this
  rw [show (0 : Int) = ((0 : Nat) : Int) from rfl, this]
  simp [eU, zI, bT]
end Go.Proofs.YtbnmhjobnepajaaGreat.M


namespace Go.Proofs.YtbnmhjobnepajaaGreat.M

noncomputable def nM : List UInt8 → List UInt8 → List (List UInt8)
  | [], w => [w]
  | c :: r, w => if c = 47 then w :: nM r [] else nM r (w ++ [c])
noncomputable def ZO (c : UInt8) : Bool := (97 ≤ c.toNat && c.toNat ≤ 122) || (48 ≤ c.toNat && c.toNat ≤ 57) || c.toNat == 45 || c.toNat == 95
noncomputable def CJ (p : List UInt8) : Bool := decide (0 < p.length) && p.all ZO
noncomputable def zn (s : List UInt8) : Bool := decide (s.length ≤ 32) && ((nM s []).all CJ && decide ((nM s []).length ≤ 4))

theorem acf {s : List UInt8} {i : Nat} (h : i < s.length) : (btS s (i : Int) == 47) = decide (s[i] = 47) := by
  rw [AU h, Bool.eq_iff_iff]
  simp only [beq_iff_eq, decide_eq_true_eq]
  constructor
  · intro h; apply UInt8.toNat_inj.1; show s[i].toNat = 47; omega
  · intro h; rw [h]; rfl

theorem Eo {s : List UInt8} (hs : s.length ≤ 32) : ∀ (k i fr : Nat) (out : List (List UInt8)), i + k = s.length → fr ≤ i → out.length ≤ i →
    ∃ out' fr', bC (jX s) (out, (fr : Int), (i : Int)) = some (out', ((fr' : Nat) : Int)) ∧ fr' ≤ s.length ∧ out'.length ≤ s.length ∧ out' ++ [s.drop fr'] = out ++ nM (s.drop i) ((s.take i).drop fr)
  | 0, i, fr, out, hi, hf, ho => by
    have : i = s.length := by omega
    subst this
    refine ⟨out, fr, kH (by unfold jX; simp), hf, ho, ?_⟩
    simp [nM]
  | k + 1, i, fr, out, hi, hf, ho => by
    have hl : i < s.length := by omega
    have hd : s.drop i = s[i] :: s.drop (i + 1) := by simp
    have hw := fJ (i := i) (by omega)
    rw [hd]
    by_cases c : s[i] = 47
    · rw [ng (y := (out ++ [(s.take i).drop fr], ((i + 1 : Nat) : Int), ((i + 1 : Nat) : Int))) (by
        unfold jX
        simp only [hw, acf hl]
        rw [if_pos (by simp; omega), if_pos (by omega), if_pos (by simpa using c), if_pos (by omega), if_pos (by omega)]
        simp)]
      obtain ⟨o', f', h1, h2, h3, h4⟩ := Eo hs k (i + 1) (i + 1) (out ++ [(s.take i).drop fr]) (by omega) (by omega) (by simp; omega)
      refine ⟨o', f', h1, h2, h3, ?_⟩
      rw [h4]
      have e0 : (s.take (i + 1)).drop (i + 1) = [] := by simp
      rw [e0]
      simp [nM, c]
    · rw [ng (y := (out, (fr : Int), ((i + 1 : Nat) : Int))) (by
        unfold jX
        simp only [hw, acf hl]
        rw [if_pos (by simp; omega), if_pos (by omega), if_neg (by simpa using c)])]
      obtain ⟨o', f', h1, h2, h3, h4⟩ := Eo hs k (i + 1) fr out (by omega) (by omega) (by omega)
      refine ⟨o', f', h1, h2, h3, ?_⟩
      rw [h4]
      have e0 : (s.take (i + 1)).drop fr = (s.take i).drop fr ++ [s[i]] := by
        rw [List.take_succ_eq_append_getElem hl, List.drop_append_of_le_length (by simp; omega)]
      rw [e0]
      simp [nM, c]
theorem parts_eq {s : List UInt8} (hs : s.length ≤ 32) : qE s = some (nM s []) := by
  unfold qE
  obtain ⟨o', f', h1, h2, h3, h4⟩ := Eo hs s.length 0 0 [] (by omega) (by omega) (by simp)
  rw [show (0 : Int) = ((0 : Nat) : Int) from rfl, h1]
  simp only [Option.bind_some]
  rw [if_pos (by omega), if_pos (by omega)]
  simpa using h4

theorem Y3 {p : List UInt8} (hp : p.length < 4611686018427387904) : qF p = some (CJ p) := by
  unfold qF CJ
  by_cases hn : p = []
  · subst hn; rfl
  have hl : 0 < p.length := List.length_pos_iff.2 hn
  rw [if_neg (by simpa using hn), SK (l := p) (fun _ c => ZO c) (e := false) (fun i hi => ?_) (by unfold qM; simp), EF]
  · rw [decide_eq_true hl]
    cases p.all ZO <;> rfl
  · unfold qM
    simp only [fJ (i := i) (by omega), AU hi]
    rw [if_pos (by simp; omega), if_pos (by omega)]
    unfold ZO
    generalize p[i].toNat = n
    by_cases c1 : 97 ≤ n ∧ n ≤ 122
    · rw [if_pos (by simp; omega), if_pos (by simp; omega)]
    rw [if_neg (by simp; omega)]
    by_cases c2 : 48 ≤ n ∧ n ≤ 57
    · rw [if_pos (by simp; omega), if_pos (by simp; omega)]
    rw [if_neg (by simp; omega)]
    by_cases c3 : n = 45
    · rw [if_pos (by simp; omega), if_pos (by simp; omega)]
    rw [if_neg (by simp; omega)]
    by_cases c4 : n = 95
    · rw [if_pos (by simp; omega), if_pos (by simp; omega)]
    rw [if_neg (by simp; omega), if_neg (by simp; omega)]
theorem Et : ∀ (s w : List UInt8) (M : Nat), s.length + w.length ≤ M → (nM s w).length ≤ s.length + 1 ∧ ∀ p ∈ nM s w, p.length ≤ M
  | [], w, M, h => ⟨by simp [nM], fun p hp => by simp [nM] at hp; subst hp; simpa using h⟩
  | c :: r, w, M, h => by
    simp only [List.length_cons] at h
    unfold nM
    split
    · obtain ⟨h1, h2⟩ := Et r [] M (by simp; omega)
      refine ⟨by simp; omega, fun p hp => ?_⟩
      rcases List.mem_cons.1 hp with rfl | hp
      · omega
      · exact h2 p hp
    · obtain ⟨h1, h2⟩ := Et r (w ++ [c]) M (by simp; omega)
      exact ⟨by simp; omega, h2⟩

theorem WU (s : List UInt8) : oZ s = some (zn s) := by
  unfold oZ iP zn
  by_cases h : s.length ≤ 32
  · obtain ⟨g1, g2⟩ := Et s [] 32 (by simpa using h)
    rw [if_neg (by simp; omega), parts_eq h]
    simp only [Option.bind_some]
    rw [SK (l := nM s []) (fun _ c => CJ c) (e := false) (fun i hi => ?_) (by unfold ik; simp), EF]
    · rw [decide_eq_true h]
      cases (nM s []).all CJ <;> simp [ku]
      omega
    · unfold ik qL
      simp only [fJ (i := i) (by omega), oC hi, Option.bind_some, Y3 (p := (nM s [])[i]) (by have := g2 _ (List.getElem_mem hi); omega)]
      rw [if_pos (by simp; omega)]
      cases CJ (nM s [])[i] <;> rfl
  · rw [if_pos (by simp; omega), decide_eq_false h]; rfl
end Go.Proofs.YtbnmhjobnepajaaGreat.M


namespace Go.Proofs.YtbnmhjobnepajaaGreat.M

abbrev kX : Type := Int × Int × List UInt8 × Int × List Int × Int × Unit
abbrev VdT : Type := Int × Int × Unit
noncomputable def I64 (n : Int) : Prop := -9223372036854775808 ≤ n ∧ n < 9223372036854775808
noncomputable def inR (n a b : Int) : Bool := decide (n ≥ a) && decide (n ≤ b)
theorem E8 {n a b : Int} : inR n a b = true ↔ a ≤ n ∧ n ≤ b := by unfold inR; simp
noncomputable def Hr (l : List Int) (most : Nat) : Bool := l.all (fun n => inR n (-1099511627776) 1099511627776) && decide (l.length ≤ most)
noncomputable def GL (client seq : Int) (stream : List UInt8) : Bool := inR client 0 5 && inR seq 1 1099511627776 && zn stream
noncomputable def mV (c : kX) : Bool := GL c.1 c.2.1 c.2.2.1 && inR c.2.2.2.1 0 11 && Hr c.2.2.2.2.1 4 && inR c.2.2.2.2.2.1 (-1) 1099511627776
noncomputable def RQ (l : List VdT) (i : Nat) (v : VdT) : Bool := inR v.1 1 1099511627776 && inR v.2.1 0 63 && !(decide (0 < i) && decide (v.1 ≤ (l.getD (i - 1) (0, 0, ())).1))
noncomputable def lZ (l : List VdT) : Bool := yE (RQ l) 0 l && decide (l.length ≤ 32)

theorem zo (n a b : Int) : fV n a b = some (inR n a b) := rfl
theorem values_eq {l : List Int} (hl : l.length < 4611686018427387904) (m : Nat) : rO l (m : Int) = some (Hr l m) := by
  unfold rO Hr
  rw [SK (l := l) (fun _ n => inR n (-1099511627776) 1099511627776) (e := false) (fun i hi => ?_) (by unfold rP; simp), EF]
  · cases l.all (fun n => inR n (-1099511627776) 1099511627776) <;> simp [ku]
  · unfold rP
    simp only [fJ (i := i) (by omega), oC hi, Option.bind_some, zo]
    rw [if_pos (by simp; omega)]
    cases inR l[i] (-1099511627776) 1099511627776 <;> rfl
theorem head_eq (a b : Int) (s : List UInt8) : vW a b s = some (GL a b s) := by
  unfold vW GL
  simp only [zo, WU, Option.bind_some]
  cases inR a 0 5 <;> cases inR b 1 1099511627776 <;> cases zn s <;> rfl
theorem Xw {c : kX} (hl : c.2.2.2.2.1.length < 4611686018427387904) : uK c = some (mV c) := by
  unfold uK mV
  simp only [zo, head_eq, show (4 : Int) = ((4 : Nat) : Int) from rfl, values_eq hl, Option.bind_some]
  cases GL c.1 c.2.1 c.2.2.1 <;> cases inR c.2.2.2.1 0 11 <;> cases Hr c.2.2.2.2.1 4 <;> cases inR c.2.2.2.2.2.1 (-1) 1099511627776 <;> rfl
theorem aaD {l : List VdT} {i : Nat} (hi : i < l.length) (h0 : 0 < i) : ix l (IntKind.wrap .i64 ((i : Int) - 1)) = some (l.getD (i - 1) (0, 0, ())) ∨ 9223372036854775807 ≤ i := by
  by_cases h : i < 9223372036854775807
  · left
    have hw : IntKind.wrap .i64 ((i : Int) - 1) = ((i - 1 : Nat) : Int) := by rw [aO (by omega) (by omega)]; omega
    rw [hw, oC (by omega), List.getD_eq_getElem?_getD, List.getElem?_eq_getElem (by omega)]; rfl
  · right; omega
theorem Io {l : List VdT} (hl : l.length < 4611686018427387904) : lJ l = some (lZ l) := by
  unfold lJ lZ
  rw [SK (l := l) (RQ l) (e := false) (fun i hi => ?_) (by unfold pW; simp)]
  · cases yE (RQ l) 0 l <;> simp [ku]
    omega
  · unfold pW
    simp only [fJ (i := i) (by omega), oC hi, Option.bind_some, zo]
    rw [if_pos (by simp; omega)]
    unfold RQ
    cases inR l[i].1 1 1099511627776 with
    | false => rfl
    | true =>
      cases inR l[i].2.1 0 63 with
      | false => rfl
      | true =>
        simp only [Bool.not_true, Bool.not_false, if_true, Bool.true_and]
        by_cases h0 : 0 < i
        · rcases aaD hi h0 with h | h
          · rw [if_pos (by simp; omega), h]
            simp only [Option.bind_some, decide_eq_true h0, Bool.true_and]
            by_cases hv : l[i].1 ≤ (l.getD (i - 1) (0, 0, ())).1
            · rw [if_pos (by simpa using hv), if_neg (by simpa using hv)]
            · rw [if_neg (by simpa using hv), if_pos (by simpa using hv)]
          · omega
        · rw [if_neg (by simp; omega), decide_eq_false h0]; rfl
noncomputable def vz (s : List UInt8) : List UInt8 := eU (s.length : Int) ++ s
noncomputable def zJ (l : List Int) : List UInt8 := eU (l.length : Int) ++ l.flatMap eU
noncomputable def vw (c : kX) : List UInt8 := eU c.1 ++ (eU c.2.1 ++ (vz c.2.2.1 ++ (eU c.2.2.2.1 ++ (zJ c.2.2.2.2.1 ++ eU c.2.2.2.2.2.1))))
noncomputable def qQ (l : List VdT) : List UInt8 := eU (l.length : Int) ++ l.flatMap (fun v => eU v.1 ++ eU v.2.1)

theorem abl : dV = f90 := Qw
theorem number_eq {n : Int} (h : I64 n) : dV n = some (eU n) := by rw [abl]; exact aam h.1 h.2
theorem xK {n : Nat} (h : n < 9223372036854775808) : I64 (n : Int) := ⟨by omega, by omega⟩
theorem uZ {n : Int} (h : I64 n) : (eU n).length ≤ 10 := by unfold eU; rw [Gt]; exact xE h.1 h.2
theorem O6 : ∀ {l : List Int}, bT (l.flatMap zI) = l.flatMap eU
  | [] => rfl
  | x :: r => by rw [List.flatMap_cons, List.flatMap_cons, wH, O6]; rfl
theorem Ym {l : List Int} (h : ∀ n ∈ l, I64 n) : (l.flatMap zI).length ≤ 10 * l.length := by
  induction l with
  | nil => simp
  | cons x r ih =>
    have h1 := xE (h x List.mem_cons_self).1 (h x List.mem_cons_self).2
    have h2 := ih fun n hn => h n (List.mem_cons_of_mem _ hn)
    rw [List.flatMap_cons, List.length_append, List.length_cons]; omega

theorem MK {l : List Int} (h : ∀ n ∈ l, I64 n) : ∀ (k i : Nat) (b : List Int), i + k = l.length → b.length + 10 * k ≤ 140737488355328 → l.length < 4611686018427387904 →
    bC (nR l) (b, (i : Int)) = some (b ++ (l.drop i).flatMap zI)
  | 0, i, b, hi, hb, hl => by
    have : i = l.length := by omega
    subst this
    rw [kH (r := b) (by unfold nR; simp)]
    simp
  | k + 1, i, b, hi, hb, hl => by
    have hlt : i < l.length := by omega
    have hn := h l[i] (List.getElem_mem hlt)
    have hz := xE hn.1 hn.2
    rw [ng (y := (b ++ zI l[i], ((i + 1 : Nat) : Int))) (by
      unfold nR
      simp only [fJ (i := i) (by omega), oC hlt, Option.bind_some, number_eq hn, GZ]
      rw [if_pos (by simp; omega), if_pos (by omega)]), MK h k (i + 1) _ (by omega) (by rw [List.length_append]; omega) hl]
    have hd : l.drop i = l[i] :: l.drop (i + 1) := by simp
    rw [hd, List.flatMap_cons, List.append_assoc]
theorem EK {b l : List Int} (h : ∀ n ∈ l, I64 n) (hb : b.length + 10 * l.length ≤ 140737488355328) : jb b l = some (b ++ l.flatMap zI) := by
  unfold jb
  have := MK h l.length 0 b (by omega) hb (by omega)
  rw [show (0 : Int) = ((0 : Nat) : Int) from rfl, this]
  simp

theorem LH {l : List Int} (h : ∀ n ∈ l, I64 n) : ∀ (k i : Nat) (b : List Int), i + k = l.length → b.length + 10 * k ≤ 140737488355328 → l.length ≤ 256 →
    bC (dS l) (b, (i : Int)) = some (.inl (b ++ (l.drop i).flatMap zI))
  | 0, i, b, hi, hb, hl => by
    have : i = l.length := by omega
    subst this
    rw [kH (r := .inl b) (by unfold dS; simp)]
    simp
  | k + 1, i, b, hi, hb, hl => by
    have hlt : i < l.length := by omega
    have hn := h l[i] (List.getElem_mem hlt)
    have hz := xE hn.1 hn.2
    rw [ng (y := (b ++ zI l[i], ((i + 1 : Nat) : Int))) (by
      unfold dS qN
      simp only [fJ (i := i) (by omega), oC hlt, Option.bind_some, number_eq hn, GZ]
      rw [if_pos (by simp; omega), if_neg (by decide), if_pos (by omega)]), LH h k (i + 1) _ (by omega) (by rw [List.length_append]; omega) hl]
    have hd : l.drop i = l[i] :: l.drop (i + 1) := by simp
    rw [hd, List.flatMap_cons, List.append_assoc]
theorem Zw {l : List Int} (h : ∀ n ∈ l, I64 n) : pg l = some (if l.length > 256 then ([], 4) else (zJ l, 0)) := by
  unfold pg gI
  by_cases hl : l.length > 256
  · rw [if_pos (by simp; omega), if_pos hl]; rfl
  · have hi : I64 (l.length : Int) := xK (by omega)
    have h1 := uZ hi
    rw [if_neg (by simp; omega), if_neg hl, number_eq hi]
    simp only [Option.bind_some, GZ]
    rw [if_pos (by omega)]
    have h2 := xE hi.1 hi.2
    have := LH h l.length 0 (zI (l.length : Int)) (by omega) (by omega) (by omega)
    rw [show ((0 : Nat) : Int) = (0 : Int) from rfl] at this
    rw [this]
    simp only [Option.bind_some, ku, List.drop_zero, wH, O6]
    rfl
theorem Zx {s : List UInt8} (hs : s.length < 4611686018427387904) : uF s = some (if s.length > 4096 then ([], 4) else (vz s, 0)) := by
  unfold uF
  by_cases hl : s.length > 4096
  · rw [if_pos (by simp; omega), if_pos hl]
  · have hi : I64 (s.length : Int) := xK (by omega)
    have h1 := uZ hi
    rw [if_neg (by simp; omega), if_neg hl, number_eq hi]
    simp only [Option.bind_some]
    rw [if_pos (by omega)]
    rfl

theorem YB {s : List UInt8} (h : s.length ≤ 4096) : (vz s).length ≤ 4106 := by
  have := uZ (xK (n := s.length) (by omega))
  unfold vz
  rw [List.length_append]; omega
theorem Nr {l : List Int} (h : ∀ n ∈ l, I64 n) : (l.flatMap eU).length ≤ 10 * l.length := by
  rw [← O6, Gt]; exact Ym h
theorem YA {l : List Int} (h : ∀ n ∈ l, I64 n) (hl : l.length ≤ 256) : (zJ l).length ≤ 2570 := by
  have h1 := uZ (xK (n := l.length) (by omega))
  have h2 := Nr h
  unfold zJ
  rw [List.length_append]; omega

theorem XD {b : List Int} {s : List UInt8} (hs : s.length < 4611686018427387904) (hb : b.length ≤ 100000) : ∃ t, vX b s = some (b ++ jS t) ∧ t.length ≤ 4106 ∧ (s.length ≤ 4096 → t = vz s) := by
  unfold vX
  rw [Zx hs]
  by_cases hl : s.length > 4096
  · rw [if_pos hl]
    refine ⟨[], ?_, by simp, fun h => by omega⟩
    simp only [Option.bind_some]
    rw [if_pos (by simp [jS]; omega)]
  · rw [if_neg hl]
    have := YB (s := s) (by omega)
    refine ⟨vz s, ?_, this, fun _ => rfl⟩
    simp only [Option.bind_some]
    rw [if_pos (by rw [y8]; omega)]
theorem Xy {b l : List Int} (h : ∀ n ∈ l, I64 n) (hb : b.length ≤ 100000) : ∃ t, qC b l = some (b ++ jS t) ∧ t.length ≤ 2570 ∧ (l.length ≤ 256 → t = zJ l) := by
  unfold qC
  rw [Zw h]
  by_cases hl : l.length > 256
  · rw [if_pos hl]
    refine ⟨[], ?_, by simp, fun h => by omega⟩
    simp only [Option.bind_some]
    rw [if_pos (by simp [jS]; omega)]
  · rw [if_neg hl]
    have := YA h (by omega)
    refine ⟨zJ l, ?_, this, fun _ => rfl⟩
    simp only [Option.bind_some]
    rw [if_pos (by rw [y8]; omega)]

structure Jj (c : kX) : Prop where
  a : I64 c.1
  b : I64 c.2.1
  s : c.2.2.1.length < 4611686018427387904
  r : I64 c.2.2.2.1
  l : ∀ n ∈ c.2.2.2.2.1, I64 n
  n : c.2.2.2.2.1.length ≤ 1048576
  e : I64 c.2.2.2.2.2.1
theorem F8 {s : List UInt8} (h : zn s = true) : s.length ≤ 32 := by
  unfold zn at h
  simp only [Bool.and_eq_true, decide_eq_true_eq] at h
  exact h.1
theorem Vx {c : kX} (h : Jj c) : rJ c = some (if mV c = true then (vw c, 0) else ([], 2)) := by
  unfold rJ
  rw [EK (l := [c.1, c.2.1]) (by simp only [List.mem_cons, List.not_mem_nil, or_false, forall_eq_or_imp, forall_eq]; exact ⟨h.a, h.b⟩) (by simp)]
  have l1 := xE h.a.1 h.a.2
  have l2 := xE h.b.1 h.b.2
  have l3 := xE h.r.1 h.r.2
  simp only [Option.bind_some, List.flatMap_cons, List.flatMap_nil, List.append_nil, List.nil_append]
  obtain ⟨t, t1, t2, t3⟩ := XD (b := zI c.1 ++ zI c.2.1) h.s (by simp; omega)
  rw [t1]
  simp only [Option.bind_some]
  have tl : (jS t).length = t.length := y8 t
  rw [EK (l := [c.2.2.2.1]) (by simpa using h.r) (by simp [y8]; omega)]
  simp only [Option.bind_some, List.flatMap_cons, List.flatMap_nil, List.append_nil]
  obtain ⟨u, u1, u2, u3⟩ := Xy (b := zI c.1 ++ zI c.2.1 ++ jS t ++ zI c.2.2.2.1) h.l (by simp [y8]; omega)
  rw [u1]
  simp only [Option.bind_some]
  rw [Xw (by have := h.n; omega), EK (l := [c.2.2.2.2.2.1]) (by simpa using h.e) (by simp [y8]; omega)]
  simp only [Option.bind_some, List.flatMap_cons, List.flatMap_nil, List.append_nil]
  unfold rM
  by_cases hc : mV c = true
  · rw [if_neg (by rw [hc]; simp), if_pos hc]
    have hc' := hc
    unfold mV GL at hc'
    simp only [Bool.and_eq_true] at hc'
    have hs := F8 hc'.1.1.1.2
    have hn : c.2.2.2.2.1.length ≤ 4 := by
      have := hc'.1.2
      unfold Hr at this
      simp only [Bool.and_eq_true, decide_eq_true_eq] at this
      exact this.2
    rw [t3 (by omega), u3 (by omega)]
    simp only [Option.bind_some, wH, SH]
    unfold vw
    simp only [List.append_assoc]
    rfl
  · rw [if_pos (by simpa using hc), if_neg hc]; rfl

theorem Oh {l : List VdT} (h : ∀ v ∈ l, I64 v.1 ∧ I64 v.2.1) : ∀ (k i : Nat) (b : List Int), i + k = l.length → b.length + 20 * k ≤ 140737488355328 → l.length < 4611686018427387904 →
    bC (bK l) (b, (i : Int)) = some (b ++ (l.drop i).flatMap (fun v => zI v.1 ++ zI v.2.1))
  | 0, i, b, hi, hb, hl => by
    have : i = l.length := by omega
    subst this
    rw [kH (r := b) (by unfold bK; simp)]
    simp
  | k + 1, i, b, hi, hb, hl => by
    have hlt : i < l.length := by omega
    have hn := h l[i] (List.getElem_mem hlt)
    have hz := xE hn.1.1 hn.1.2
    have hz2 := xE hn.2.1 hn.2.2
    rw [ng (y := (b ++ (zI l[i].1 ++ zI l[i].2.1), ((i + 1 : Nat) : Int))) (by
      unfold bK nD
      simp only [fJ (i := i) (by omega), oC hlt, Option.bind_some]
      rw [if_pos (by simp; omega), EK (l := [l[i].1, l[i].2.1]) (by simp only [List.mem_cons, List.not_mem_nil, or_false, forall_eq_or_imp, forall_eq]; exact hn) (by simp; omega)]
      simp), Oh h k (i + 1) _ (by omega) (by simp only [List.length_append]; omega) hl]
    have hd : l.drop i = l[i] :: l.drop (i + 1) := by simp
    rw [hd, List.flatMap_cons, List.append_assoc]
theorem UU : ∀ {l : List VdT}, bT (l.flatMap (fun v => zI v.1 ++ zI v.2.1)) = l.flatMap (fun v => eU v.1 ++ eU v.2.1)
  | [] => rfl
  | x :: r => by rw [List.flatMap_cons, List.flatMap_cons, wH, wH, UU]; rfl
theorem Au {l : List VdT} (h : ∀ v ∈ l, I64 v.1 ∧ I64 v.2.1) (hl : l.length ≤ 1048576) : jD l = some (if lZ l = true then (qQ l, 0) else ([], 2)) := by
  unfold jD dX
  have hi : I64 (l.length : Int) := xK (by omega)
  have h2 := xE hi.1 hi.2
  rw [Io (by omega), EK (l := [(l.length : Int)]) (by simpa using hi) (by simp)]
  simp only [Option.bind_some, List.flatMap_cons, List.flatMap_nil, List.append_nil, List.nil_append]
  have := Oh h l.length 0 (zI (l.length : Int)) (by omega) (by omega) (by omega)
  rw [show ((0 : Nat) : Int) = (0 : Int) from rfl] at this
  rw [this]
  simp only [Option.bind_some, List.drop_zero]
  unfold rM
  by_cases hc : lZ l = true
  · rw [if_neg (by rw [hc]; simp), if_pos hc, wH, UU]; rfl
  · rw [if_pos (by simpa using hc), if_neg hc]; rfl
end Go.Proofs.YtbnmhjobnepajaaGreat.M


namespace Go.Proofs.YtbnmhjobnepajaaGreat.M

theorem oh {α : Type} {s a r : List α} {p : Nat} (h : s.drop p = a ++ r) : s.drop (p + a.length) = r := by
  rw [← List.drop_drop, h, List.drop_left]
theorem UG {α : Type} {s a r : List α} {p : Nat} (h : s.drop p = a ++ r) (ha : 0 < a.length) : p + a.length ≤ s.length := by
  have := congrArg List.length h
  rw [List.length_drop, List.length_append] at this
  omega
theorem FU (n : Int) : 0 < (eU n).length := by unfold eU; rw [Gt]; exact Vr _

noncomputable def Val (n : Int) : Prop := -2199023255552 ≤ n ∧ n ≤ 2199023255552
theorem Za {s : List UInt8} {p : Nat} {n : Int} {rest : List UInt8} (hs : s.length < 1073741824) (hn : Val n) (hd : s.drop p = eU n ++ rest) : eQ s (p : Int) = some (n, ((p + (eU n).length : Nat) : Int), 0) := by
  have := UG hd (FU n)
  rw [JJ]; exact VU (by omega) hn.1 hn.2 (by omega) hd
theorem count_eq {s : List UInt8} {p n : Nat} {m : Int} {rest : List UInt8} (hs : s.length < 1073741824) (hn : (n : Int) ≤ m) (hm : m ≤ 10000) (hd : s.drop p = eU (n : Int) ++ rest) : oz s (p : Int) m = some ((n : Int), ((p + (eU (n : Int)).length : Nat) : Int), 0) := by
  unfold oz
  rw [Za hs ⟨by omega, by omega⟩ hd]
  simp only [Option.bind_some]
  rw [if_neg (by decide), if_neg (by simp), if_neg (by simp; omega)]
theorem Zd {s : List UInt8} {p : Nat} {t rest : List UInt8} (hs : s.length < 1073741824) (ht : t.length ≤ 4096) (hd : s.drop p = vz t ++ rest) : nS s (p : Int) = some (t, ((p + (vz t).length : Nat) : Int), 0) := by
  have hd' := hd
  unfold vz at hd'
  rw [List.append_assoc] at hd'
  have h1 := UG hd (by unfold vz; rw [List.length_append]; have := FU (t.length : Int); omega)
  have h2 := oh hd'
  have e1 : (vz t).length = (eU (t.length : Int)).length + t.length := by unfold vz; rw [List.length_append]
  unfold nS
  rw [count_eq (m := 4096) hs (by omega) (by omega) hd']
  simp only [Option.bind_some]
  have hw : IntKind.wrap .i64 ((s.length : Int) - ((p + (eU (t.length : Int)).length : Nat) : Int)) = ((s.length - (p + (eU (t.length : Int)).length) : Nat) : Int) := by rw [aO (by omega) (by omega)]; omega
  have hw2 : IntKind.wrap .i64 (((p + (eU (t.length : Int)).length : Nat) : Int) + (t.length : Int)) = ((p + (vz t).length : Nat) : Int) := by rw [aO (by omega) (by omega)]; omega
  rw [hw, hw2, if_neg (by decide), if_neg (by simp; omega), if_pos (by omega)]
  rw [show (((p + (vz t).length : Nat) : Int)).toNat = p + (vz t).length by omega, show (((p + (eU (t.length : Int)).length : Nat) : Int)).toNat = p + (eU (t.length : Int)).length by omega]
  congr 2
  rw [List.drop_take, h2, show p + (vz t).length - (p + (eU (t.length : Int)).length) = t.length by omega, List.take_left]

theorem KY {s : List UInt8} {x0 : Int × Int × Int} {l : List Int} (hs : s.length < 1073741824) (hl : l.length ≤ 256) (hx : x0.1 = (l.length : Int)) (hv : ∀ n ∈ l, Val n) : ∀ (k i p : Nat) (rest : List UInt8), i + k = l.length → s.drop p = (l.drop i).flatMap eU ++ rest →
    bC (dL s x0) ((p : Int), l.take i, (i : Int)) = some (.inl (((p + ((l.drop i).flatMap eU).length : Nat) : Int), l))
  | 0, i, p, rest, hi, hd => by
    have : i = l.length := by omega
    subst this
    rw [kH (r := .inl ((p : Int), l)) (by unfold dL; simp [hx])]
    simp
  | k + 1, i, p, rest, hi, hd => by
    have hlt : i < l.length := by omega
    have hdi : l.drop i = l[i] :: l.drop (i + 1) := by simp
    have hd' := hd
    rw [hdi, List.flatMap_cons, List.append_assoc] at hd'
    rw [ng (y := (((p + (eU l[i]).length : Nat) : Int), l.take (i + 1), ((i + 1 : Nat) : Int))) (by
      unfold dL
      simp only [fJ (i := i) (by omega), Za hs (hv _ (List.getElem_mem hlt)) hd', Option.bind_some, hx]
      rw [if_pos (by simp; omega), if_neg (by decide), if_pos (by simp; omega), List.take_succ_eq_append_getElem hlt]), KY hs hl hx hv k (i + 1) _ rest (by omega) (oh hd')]
    rw [hdi, List.flatMap_cons, List.length_append]
    congr 3
    omega
theorem Zc {s : List UInt8} {p : Nat} {l : List Int} {rest : List UInt8} (hs : s.length < 1073741824) (hl : l.length ≤ 256) (hv : ∀ n ∈ l, Val n) (hd : s.drop p = zJ l ++ rest) : kQ s (p : Int) = some (l, ((p + (zJ l).length : Nat) : Int), 0) := by
  have hd' := hd
  unfold zJ at hd'
  rw [List.append_assoc] at hd'
  unfold kQ gm
  rw [count_eq (m := 256) hs (by omega) (by omega) hd']
  simp only [Option.bind_some]
  rw [if_neg (by decide)]
  have := KY (x0 := ((l.length : Int), ((p + (eU (l.length : Int)).length : Nat) : Int), 0)) hs hl rfl hv l.length 0 (p + (eU (l.length : Int)).length) rest (by omega) (oh hd')
  simp only [List.take_zero, List.drop_zero] at this
  rw [show ((0 : Nat) : Int) = (0 : Int) from rfl] at this
  rw [this]
  simp only [Option.bind_some, ku]
  unfold zJ
  rw [List.length_append, Nat.add_assoc]

noncomputable def rdr (σ : St) (x : az jB) : St := σ.bg (σ.ak ++ [x])
theorem uG (σ : St) (x : az jB) : (rdr σ x).ak[σ.ak.length]? = some x := by
  unfold rdr St.bg
  simp
theorem CO (σ : St) (x y : az jB) : (rdr σ x).ak.set σ.ak.length y = (rdr σ y).ak := by
  unfold rdr St.bg
  simp
theorem xC {σ : St} {s : List UInt8} {p : Nat} {n : Int} {rest : List UInt8} (hs : s.length < 1073741824) (hn : Val n) (hd : s.drop p = eU n ++ rest) :
    cZ (some σ.ak.length) (rdr σ (s, (p : Int), 0, ())) = some (n, rdr σ (s, ((p + (eU n).length : Nat) : Int), 0, ())) := by
  unfold cZ
  have hg := uG σ (s, (p : Int), 0, ())
  simp only [Option.bind_some, hg, Za hs hn hd]
  rw [if_neg (by decide)]
  have h1 := CO σ (s, (p : Int), 0, ()) (s, ((p + (eU n).length : Nat) : Int), 0, ())
  have h2 := uG σ (s, ((p + (eU n).length : Nat) : Int), 0, ())
  have h3 := CO σ (s, ((p + (eU n).length : Nat) : Int), 0, ()) (s, ((p + (eU n).length : Nat) : Int), 0, ())
  rw [h1, h2]
  simp only [Option.bind_some]
  rw [h3]
  rfl
theorem WO {σ : St} {s : List UInt8} {p : Nat} {t rest : List UInt8} (hs : s.length < 1073741824) (ht : t.length ≤ 4096) (hd : s.drop p = vz t ++ rest) :
    lD (some σ.ak.length) (rdr σ (s, (p : Int), 0, ())) = some (t, rdr σ (s, ((p + (vz t).length : Nat) : Int), 0, ())) := by
  unfold lD
  have hg := uG σ (s, (p : Int), 0, ())
  simp only [Option.bind_some, hg, Zd hs ht hd]
  rw [if_neg (by decide)]
  have h1 := CO σ (s, (p : Int), 0, ()) (s, ((p + (vz t).length : Nat) : Int), 0, ())
  have h2 := uG σ (s, ((p + (vz t).length : Nat) : Int), 0, ())
  have h3 := CO σ (s, ((p + (vz t).length : Nat) : Int), 0, ()) (s, ((p + (vz t).length : Nat) : Int), 0, ())
  rw [h1, h2]
  simp only [Option.bind_some]
  rw [h3]
  rfl
theorem WN {σ : St} {s : List UInt8} {p : Nat} {l : List Int} {rest : List UInt8} (hs : s.length < 1073741824) (hl : l.length ≤ 256) (hv : ∀ n ∈ l, Val n) (hd : s.drop p = zJ l ++ rest) :
    jK (some σ.ak.length) (rdr σ (s, (p : Int), 0, ())) = some (l, rdr σ (s, ((p + (zJ l).length : Nat) : Int), 0, ())) := by
  unfold jK
  have hg := uG σ (s, (p : Int), 0, ())
  simp only [Option.bind_some, hg, Zc hs hl hv hd]
  rw [if_neg (by decide)]
  have h1 := CO σ (s, (p : Int), 0, ()) (s, ((p + (zJ l).length : Nat) : Int), 0, ())
  have h2 := uG σ (s, ((p + (zJ l).length : Nat) : Int), 0, ())
  have h3 := CO σ (s, ((p + (zJ l).length : Nat) : Int), 0, ()) (s, ((p + (zJ l).length : Nat) : Int), 0, ())
  rw [h1, h2]
  simp only [Option.bind_some]
  rw [h3]
  rfl

theorem xM {c : kX} (h : mV c = true) : (0 ≤ c.1 ∧ c.1 ≤ 5) ∧ (1 ≤ c.2.1 ∧ c.2.1 ≤ 1099511627776) ∧ c.2.2.1.length ≤ 32 ∧ (0 ≤ c.2.2.2.1 ∧ c.2.2.2.1 ≤ 11) ∧ (∀ n ∈ c.2.2.2.2.1, -1099511627776 ≤ n ∧ n ≤ 1099511627776) ∧ c.2.2.2.2.1.length ≤ 4 ∧ (-1 ≤ c.2.2.2.2.2.1 ∧ c.2.2.2.2.2.1 ≤ 1099511627776) := by
  unfold mV GL Hr at h
  simp only [Bool.and_eq_true, List.all_eq_true, decide_eq_true_eq, E8] at h
  obtain ⟨⟨⟨⟨⟨h1, h2⟩, h3⟩, h4⟩, h5, h6⟩, h7⟩ := h
  exact ⟨h1, h2, F8 h3, h4, h5, h6, h7⟩
theorem FD {c : kX} (h : mV c = true) : (vw c).length ≤ 200 ∧ 0 < (vw c).length := by
  obtain ⟨h1, h2, h3, h4, h5, h6, h7⟩ := xM h
  have z : ∀ {n : Int}, -1099511627776 ≤ n → n ≤ 1099511627776 → (eU n).length ≤ 10 := fun a b => uZ ⟨by omega, by omega⟩
  have a1 := z (n := c.1) (by omega) (by omega)
  have a2 := z (n := c.2.1) (by omega) (by omega)
  have a3 := z (n := c.2.2.2.1) (by omega) (by omega)
  have a4 := z (n := c.2.2.2.2.2.1) (by omega) (by omega)
  have a5 := z (n := (c.2.2.1.length : Int)) (by omega) (by omega)
  have a6 := z (n := (c.2.2.2.2.1.length : Int)) (by omega) (by omega)
  have a7 := Nr (l := c.2.2.2.2.1) (fun n hn => ⟨by have := h5 n hn; omega, by have := h5 n hn; omega⟩)
  have p1 := FU c.1
  unfold vw vz zJ
  simp only [List.length_append]
  omega

theorem aae {σ : St} {s : List UInt8} {p : Nat} {c : kX} (hc : mV c = true) : fK (some σ.ak.length) c () (rdr σ (s, (p : Int), 0, ())) = some ((c, (p : Int), 0), rdr σ (s, (p : Int), 0, ())) := by
  unfold fK
  have hg := uG σ (s, (p : Int), 0, ())
  simp only [Option.bind_some, hg, Xw (c := c) (by have := (xM hc).2.2.2.2.2.1; omega), hc]
  simp [hg]
theorem Sl {σ : St} {c : kX} (hc : mV c = true) : qB (vw c) 0 σ = some ((c, ((vw c).length : Int), 0), rdr σ (vw c, ((vw c).length : Int), 0, ())) := by
  obtain ⟨h1, h2, h3, h4, h5, h6, h7⟩ := xM hc
  have hl := (FD hc).1
  generalize hsd : vw c = s at *
  have hs : s.length < 1073741824 := by omega
  have d0 : s.drop 0 = eU c.1 ++ (eU c.2.1 ++ (vz c.2.2.1 ++ (eU c.2.2.2.1 ++ (zJ c.2.2.2.2.1 ++ (eU c.2.2.2.2.2.1 ++ []))))) := by
    rw [← hsd, List.append_nil]; rfl
  have d1 := oh d0
  have d2 := oh d1
  have d3 := oh d2
  have d4 := oh d3
  have d5 := oh d4
  unfold qB
  have e0 : σ.bg (σ.ak ++ [(s, (0 : Int), (0 : Int), ())]) = rdr σ (s, ((0 : Nat) : Int), 0, ()) := rfl
  rw [e0, xC hs ⟨by omega, by omega⟩ d0]
  simp only [Option.bind_some]
  rw [xC hs ⟨by omega, by omega⟩ d1]
  simp only [Option.bind_some]
  rw [WO hs (by omega) d2]
  simp only [Option.bind_some]
  rw [xC hs ⟨by omega, by omega⟩ d3]
  simp only [Option.bind_some]
  rw [WN hs (by omega) (fun n hn => ⟨by have := h5 n hn; omega, by have := h5 n hn; omega⟩) d4]
  simp only [Option.bind_some]
  rw [xC hs ⟨by omega, by omega⟩ d5]
  simp only [Option.bind_some]
  have hc' : mV (c.1, c.2.1, c.2.2.1, c.2.2.2.1, c.2.2.2.2.1, c.2.2.2.2.2.1, ()) = true := hc
  rw [aae hc']
  have hend : 0 + (eU c.1).length + (eU c.2.1).length + (vz c.2.2.1).length + (eU c.2.2.2.1).length + (zJ c.2.2.2.2.1).length + (eU c.2.2.2.2.2.1).length = s.length := by
    rw [← hsd]
    unfold vw
    simp only [List.length_append]
    omega
  rw [hend]
  rfl
theorem WY {σ : St} {c : kX} (hc : mV c = true) : dR (vw c) () σ = some ((c, true), rdr σ (vw c, ((vw c).length : Int), 0, ())) := by
  unfold dR
  rw [Sl hc]
  simp

theorem Ey {l : List VdT} (h : lZ l = true) : l.length ≤ 32 ∧ ∀ v ∈ l, (1 ≤ v.1 ∧ v.1 ≤ 1099511627776) ∧ 0 ≤ v.2.1 ∧ v.2.1 ≤ 63 := by
  unfold lZ at h
  simp only [Bool.and_eq_true, decide_eq_true_eq] at h
  obtain ⟨h1, h2⟩ := h
  refine ⟨h2, fun v hv => ?_⟩
  have key : ∀ (m : List VdT) (i : Nat), yE (RQ l) i m = true → ∀ v ∈ m, (1 ≤ v.1 ∧ v.1 ≤ 1099511627776) ∧ 0 ≤ v.2.1 ∧ v.2.1 ≤ 63 := by
    intro m
    induction m with
    | nil => intro i _ v hv; simp at hv
    | cons x r ih =>
      intro i hx v hv
      unfold yE at hx
      rw [Bool.and_eq_true] at hx
      rcases List.mem_cons.1 hv with rfl | hv
      · have := hx.1
        unfold RQ at this
        simp only [Bool.and_eq_true, E8] at this
        exact ⟨this.1.1, this.1.2⟩
      · exact ih (i + 1) hx.2 v hv
  exact key l 0 h1 v hv
theorem N7 {s : List UInt8} {σ : St} {x0 : Int × St} {l : List VdT} (hs : s.length < 1073741824) (hx : x0.1 = (l.length : Int)) (hl : l.length ≤ 32) (hv : ∀ v ∈ l, (1 ≤ v.1 ∧ v.1 ≤ 1099511627776) ∧ 0 ≤ v.2.1 ∧ v.2.1 ≤ 63) : ∀ (k i p : Nat) (rest : List UInt8), i + k = l.length → s.drop p = (l.drop i).flatMap (fun v => eU v.1 ++ eU v.2.1) ++ rest →
    bC (bG (some σ.ak.length) x0) (l.take i, (i : Int), rdr σ (s, (p : Int), 0, ())) = some (l, rdr σ (s, ((p + ((l.drop i).flatMap (fun v => eU v.1 ++ eU v.2.1)).length : Nat) : Int), 0, ()))
  | 0, i, p, rest, hi, hd => by
    have : i = l.length := by omega
    subst this
    rw [kH (r := (l, rdr σ (s, (p : Int), 0, ()))) (by unfold bG; simp [hx])]
    simp
  | k + 1, i, p, rest, hi, hd => by
    have hlt : i < l.length := by omega
    have hdi : l.drop i = l[i] :: l.drop (i + 1) := by simp
    have hd' := hd
    rw [hdi, List.flatMap_cons, List.append_assoc, List.append_assoc] at hd'
    have hd2 := oh hd'
    obtain ⟨v1, v2⟩ := hv _ (List.getElem_mem hlt)
    rw [ng (y := (l.take (i + 1), ((i + 1 : Nat) : Int), rdr σ (s, ((p + (eU l[i].1).length + (eU l[i].2.1).length : Nat) : Int), 0, ()))) (by
      unfold bG mg
      have hlt' : (i : Int) < x0.1 := by omega
      have hg := uG σ (s, (p : Int), 0, ())
      simp only [hlt', decide_true, if_true, Option.bind_some, hg, fJ (i := i) (by omega), beq_self_eq_true, Bool.and_self, xC hs (n := l[i].1) ⟨by omega, by omega⟩ hd', xC hs (n := l[i].2.1) ⟨by omega, by omega⟩ hd2]
      rw [if_pos (by simp; omega), List.take_succ_eq_append_getElem hlt]), N7 hs hx hl hv k (i + 1) _ rest (by omega) (oh hd2)]
    rw [hdi, List.flatMap_cons, List.length_append, List.length_append]
    rw [show p + (eU l[i].1).length + (eU l[i].2.1).length + ((l.drop (i + 1)).flatMap fun v => eU v.1 ++ eU v.2.1).length = p + ((eU l[i].1).length + (eU l[i].2.1).length + ((l.drop (i + 1)).flatMap fun v => eU v.1 ++ eU v.2.1).length) by omega]
theorem aaL {s : List UInt8} {σ : St} {l : List VdT} {p : Nat} {rest : List UInt8} (hs : s.length < 1073741824) (hl : l.length ≤ 32) (hv : ∀ v ∈ l, (1 ≤ v.1 ∧ v.1 ≤ 1099511627776) ∧ 0 ≤ v.2.1 ∧ v.2.1 ≤ 63) (hd : s.drop p = qQ l ++ rest) :
    cu (some σ.ak.length) 32 () (rdr σ (s, (p : Int), 0, ())) = some (l, rdr σ (s, ((p + (qQ l).length : Nat) : Int), 0, ())) := by
  unfold cu
  have hd' := hd
  unfold qQ at hd'
  rw [List.append_assoc] at hd'
  rw [xC hs (n := (l.length : Int)) ⟨by omega, by omega⟩ hd']
  have hin : inR (l.length : Int) 0 32 = true := E8.2 ⟨by omega, by omega⟩
  have hg := uG σ (s, ((p + (eU (l.length : Int)).length : Nat) : Int), 0, ())
  simp only [Option.bind_some, hg, beq_self_eq_true, if_true, zo, hin, Bool.not_true, Bool.and_false, Bool.false_eq_true, if_false]
  have := N7 (σ := σ) (x0 := ((l.length : Int), rdr σ (s, ((p + (eU (l.length : Int)).length : Nat) : Int), 0, ()))) hs rfl hl hv l.length 0 (p + (eU (l.length : Int)).length) rest (by omega) (oh hd')
  simp only [List.take_zero, List.drop_zero] at this
  rw [show ((0 : Nat) : Int) = (0 : Int) from rfl] at this
  rw [this]
  simp only [Option.bind_some]
  unfold qQ
  rw [List.length_append, Nat.add_assoc]
theorem FH {l : List VdT} (h : lZ l = true) : (qQ l).length ≤ 700 ∧ 0 < (qQ l).length := by
  obtain ⟨h1, h2⟩ := Ey h
  have a1 := uZ (n := (l.length : Int)) (xK (by omega))
  have p1 := FU (l.length : Int)
  have key : ∀ (m : List VdT), (∀ v ∈ m, v ∈ l) → (m.flatMap (fun v => eU v.1 ++ eU v.2.1)).length ≤ 20 * m.length := by
    intro m
    induction m with
    | nil => intro _; simp
    | cons x r ih =>
      intro hm
      have := ih fun v hv => hm v (List.mem_cons_of_mem _ hv)
      obtain ⟨b1, b2⟩ := h2 x (hm x List.mem_cons_self)
      have c1 := uZ (n := x.1) ⟨by omega, by omega⟩
      have c2 := uZ (n := x.2.1) ⟨by omega, by omega⟩
      rw [List.flatMap_cons, List.length_append, List.length_append, List.length_cons]; omega
  have := key l fun _ h => h
  unfold qQ
  rw [List.length_append]
  omega
theorem WZ {σ : St} {l : List VdT} (h : lZ l = true) : bV (qQ l) () σ = some ((l, true), rdr σ (qQ l, ((qQ l).length : Int), 0, ())) := by
  obtain ⟨h1, h2⟩ := Ey h
  have hl := (FH h).1
  unfold bV oq
  have e0 : σ.bg (σ.ak ++ [(qQ l, (0 : Int), (0 : Int), ())]) = rdr σ (qQ l, ((0 : Nat) : Int), 0, ()) := rfl
  rw [e0, aaL (rest := []) (by omega) h1 h2 (by simp)]
  simp only [Option.bind_some, Nat.zero_add]
  have e1 : dI (some σ.ak.length) l () (rdr σ (qQ l, ((qQ l).length : Int), 0, ())) = some ((l, ((qQ l).length : Int), 0), rdr σ (qQ l, ((qQ l).length : Int), 0, ())) := by
    unfold dI
    have hg := uG σ (qQ l, ((qQ l).length : Int), 0, ())
    simp only [Option.bind_some, hg, Io (l := l) (by omega), h]
    simp [hg]
  rw [e1]
  simp
end Go.Proofs.YtbnmhjobnepajaaGreat.M


namespace Go.Proofs.YtbnmhjobnepajaaGreat.M

theorem LJ {x : Int} (h1 : 0 ≤ x) (h2 : x < 256) : IntKind.wrap .u8 x = x := by
  have : IntKind.wrap .u8 x = x % 256 := by simp [IntKind.wrap, IntKind.bits, IntKind.signed]
  rw [this]; omega

noncomputable def dgt (n : Nat) : UInt8 := UInt8.ofNat (48 + n)

theorem EN {n : Nat} (h : n < 10) : (dgt n).toNat = 48 + n := by
  unfold dgt
  rw [UInt8.toNat_ofNat_of_lt' (by show 48 + n < 256; omega)]

noncomputable def dig (n : Nat) : List UInt8 := if n < 10 then [dgt n] else dig (n / 10) ++ [dgt (n % 10)]
  termination_by n
  decreasing_by omega

theorem qW {n : Nat} (h : n < 10) : dig n = [dgt n] := by rw [dig, if_pos h]
theorem Ce {n : Nat} (h : ¬ n < 10) : dig n = dig (n / 10) ++ [dgt (n % 10)] := by rw [dig, if_neg h]

theorem UF : ∀ (k n : Nat), n < 10 ^ (k + 1) → (dig n).length ≤ k + 1 := by
  intro k
  induction k with
  | zero => intro n h; rw [qW (by simpa using h)]; simp
  | succ k ih =>
    intro n h
    by_cases c : n < 10
    · rw [qW c]; simp
    · rw [Ce c, List.length_append]
      have := ih (n / 10) (by rw [Nat.div_lt_iff_lt_mul (by decide)]; rw [Nat.pow_succ] at h; exact h)
      simp only [List.length_cons, List.length_nil]; omega

theorem Gv {n : Nat} (h : n ≤ 1099511627776) : (dig n).length ≤ 13 := UF 12 n (by omega)

theorem OQ (n : Nat) : 0 < (dig n).length := by
  by_cases c : n < 10
  · rw [qW c]; simp
  · rw [Ce c]; simp

theorem UE (n : Nat) : ∀ c ∈ dig n, 48 ≤ c.toNat ∧ c.toNat ≤ 57 := by
  induction n using Nat.strongRecOn with
  | ind n ih =>
    intro c hc
    by_cases h : n < 10
    · rw [qW h] at hc
      simp only [List.mem_cons, List.not_mem_nil, or_false] at hc
      subst hc; rw [EN h]; omega
    · rw [Ce h, List.mem_append] at hc
      rcases hc with hc | hc
      · exact ih _ (by omega) c hc
      · simp only [List.mem_cons, List.not_mem_nil, or_false] at hc
        subst hc; rw [EN (by omega)]; omega

noncomputable def Ew (v : Nat) (s : List UInt8) : Nat := s.foldl (fun v c => v * 10 + (c.toNat - 48)) v

theorem Zt (v : Nat) (s t : List UInt8) : Ew v (s ++ t) = Ew (Ew v s) t := by unfold Ew; rw [List.foldl_append]

theorem Og (v : Nat) (c : UInt8) (r : List UInt8) : Ew v (c :: r) = Ew (v * 10 + (c.toNat - 48)) r := by unfold Ew; rw [List.foldl_cons]

theorem Gi (n : Nat) : Ew 0 (dig n) = n := by
  induction n using Nat.strongRecOn with
  | ind n ih =>
    by_cases h : n < 10
    · rw [qW h]; simp only [Ew, List.foldl_cons, List.foldl_nil]; rw [EN h]; omega
    · rw [Ce h, Zt, ih _ (by omega)]
      simp only [Ew, List.foldl_cons, List.foldl_nil]; rw [EN (by omega)]; omega

theorem aab {m n : Nat} (h : dig m = dig n) : m = n := by rw [← Gi m, h, Gi]

theorem WV (v : Nat) (s : List UInt8) : v ≤ Ew v s := by
  induction s generalizing v with
  | nil => exact Nat.le_refl _
  | cons c r ih =>
    have := ih (v * 10 + (c.toNat - 48))
    simp only [Ew, List.foldl_cons] at this ⊢
    omega

theorem aaz {c : UInt8} (h : 48 ≤ c.toNat ∧ c.toNat ≤ 57) : okc c = true := by
  unfold okc
  simp only [Bool.or_eq_true, Bool.and_eq_true, decide_eq_true_eq, beq_iff_eq]
  omega

end Go.Proofs.YtbnmhjobnepajaaGreat.M


namespace Go.Proofs.YtbnmhjobnepajaaGreat.M

theorem Gy : ∀ (k n : Nat) (x : Int), n + k = 8 → ∃ y, oQ x (n : Int) = some (y, 8)
  | 0, n, x, h => by
    rw [oQ]
    have : n = 8 := by omega
    subst this
    exact ⟨x, by simp⟩
  | k + 1, n, x, h => by
    rw [oQ]
    have hw : IntKind.wrap .i64 ((n : Int) + 1) = ((n + 1 : Nat) : Int) := by rw [aO (by omega) (by omega)]; omega
    have h1 : ((n : Int) < 8) := by omega
    rw [hw]
    simp only [h1, decide_true, if_true]
    split
    · exact Gy k (n + 1) _ (by omega)
    · exact Gy k (n + 1) _ (by omega)

theorem VX (a b : Int) : ∃ y, f151 a b = some y := by
  unfold f151
  obtain ⟨y, h⟩ := Gy 8 0 (IntKind.wrap .u32 ((BitVec.ofInt (IntKind.bits .u32) a ^^^ BitVec.ofInt (IntKind.bits .u32) (IntKind.wrap .u32 (b))).toNat)) (by omega)
  rw [show (((0 : Nat) : Int)) = (0 : Int) from rfl] at h
  exact ⟨y, by rw [h]; rfl⟩

theorem Nc (s : List UInt8) (hs : s.length < 9223372036854775808) : ∀ (k n : Nat) (x : Int), n + k = s.length → ∃ y, uC s x (n : Int) = some y
  | 0, n, x, h => by
    rw [uC]
    have : n = s.length := by omega
    subst this
    exact ⟨_, by simp; rfl⟩
  | k + 1, n, x, h => by
    rw [uC]
    have hn : n < s.length := by omega
    have hw : IntKind.wrap .i64 ((n : Int) + 1) = ((n + 1 : Nat) : Int) := by rw [aO (by omega) (by omega)]; omega
    have h1 : ((n : Int) < (s.length : Int)) := by omega
    have h0 : (0 : Int) ≤ (n : Int) := by omega
    obtain ⟨z, hz⟩ := VX x (btS s (n : Int))
    obtain ⟨y, ih⟩ := Nc s hs k (n + 1) z (by omega)
    refine ⟨y, ?_⟩
    simp only [h1, h0, decide_true, if_true, and_self, hz, Option.bind_eq_bind, Option.bind_some, hw, ih]

noncomputable def crc (s : List UInt8) : Int := (f111 s).getD 0

theorem UQ {s : List UInt8} (hs : s.length < 9223372036854775808) : f111 s = some (crc s) := by
  have : ∃ y, f111 s = some y := by
    unfold f111 f138
    obtain ⟨y, h⟩ := Nc s hs s.length 0 (IntKind.wrap .u32 ((BitVec.ofInt (IntKind.bits .u32) (if IntKind.signed .u32 = true then -1 else IntKind.max .u32) ^^^ BitVec.ofInt (IntKind.bits .u32) 0).toNat)) (by omega)
    rw [show (((0 : Nat) : Int)) = (0 : Int) from rfl] at h
    exact ⟨_, by rw [h]; rfl⟩
  obtain ⟨y, h⟩ := this
  unfold crc
  rw [h]; rfl

noncomputable def Ue (s : List UInt8) : List UInt8 := bT [IntKind.wrap .u8 (crc s), IntKind.wrap .u8 (Int.fdiv (crc s) (2 ^ 8)), IntKind.wrap .u8 (Int.fdiv (crc s) (2 ^ 16)), IntKind.wrap .u8 (Int.fdiv (crc s) (2 ^ 24))]
noncomputable def BR (s : List UInt8) : List UInt8 := s ++ Ue s
noncomputable def Ig (s : List UInt8) : Option (List UInt8) := if 4 ≤ s.length ∧ Ue (s.take (s.length - 4)) = s.drop (s.length - 4) then some (s.take (s.length - 4)) else none

theorem RJ (s : List UInt8) : (Ue s).length = 4 := by simp [Ue, bT]
theorem Hg (s : List UInt8) : (BR s).length = s.length + 4 := by unfold BR; rw [List.length_append, RJ]

theorem KO (s : List UInt8) : Ig (BR s) = some s := by
  unfold Ig
  have hl := Hg s
  have e1 : (BR s).length - 4 = s.length := by omega
  have e2 : (BR s).take s.length = s := by unfold BR; simp
  have e3 : (BR s).drop s.length = Ue s := by unfold BR; simp
  rw [e1, e2, e3, if_pos ⟨by omega, rfl⟩]

theorem Qz (s : List UInt8) : f110 (crc s) = some (Ue s) := rfl

theorem abI {s : List UInt8} (hs : s.length + 4 < 9223372036854775808) : f89 s = some (BR s) := by
  unfold f89
  have hl := RJ s
  simp only [UQ (s := s) (by omega), Qz, Option.bind_eq_bind, Option.bind_some]
  rw [if_pos (by omega)]
  rfl

theorem aaj {s : List UInt8} (hs : s.length < 9223372036854775808) : (∃ t, Ig s = some t ∧ f108 s = some (t, 0)) ∨ (Ig s = none ∧ ∃ e : Int, e ≠ 0 ∧ f108 s = some ([], e)) := by
  unfold f108
  have hw : IntKind.wrap .i64 ((s.length : Int) - 4) = (s.length : Int) - 4 := aO (by omega) (by omega)
  rw [hw]
  by_cases c : s.length < 4
  · refine .inr ⟨?_, 5, by decide, by rw [if_pos (by simp; omega)]⟩
    unfold Ig
    rw [if_neg (by omega)]
  have e1 : Int.toNat ((s.length : Int) - 4) = s.length - 4 := by omega
  have hg : (0 : Int) ≤ (s.length : Int) - 4 ∧ (s.length : Int) - 4 ≤ (s.length : Int) := by omega
  have hl : (s.take (s.length - 4)).length < 9223372036854775808 := by rw [List.length_take]; omega
  rw [if_neg (by simp; omega), if_pos hg]
  simp only [e1, UQ hl, Qz, Option.bind_eq_bind, Option.bind_some]
  rw [if_pos hg, if_pos hg]
  unfold Ig
  by_cases c2 : Ue (s.take (s.length - 4)) = s.drop (s.length - 4)
  · refine .inl ⟨s.take (s.length - 4), ?_, ?_⟩
    · rw [if_pos ⟨by omega, c2⟩]
    · rw [if_neg (by simp [c2])]
  · refine .inr ⟨?_, 7, by decide, ?_⟩
    · rw [if_neg (fun h => c2 h.2)]
    · rw [if_pos (by simpa using c2)]

end Go.Proofs.YtbnmhjobnepajaaGreat.M


namespace Go.Proofs.YtbnmhjobnepajaaGreat.M

theorem aal : ∀ (n : Nat), n < 9223372036854775808 → mF (n : Int) = some (dig n) := by
  intro n
  induction n using Nat.strongRecOn with
  | ind n ih =>
    intro hn
    rw [mF]
    by_cases h : n < 10
    · have h1 : ((n : Int) < 10) := by omega
      rw [if_pos (by simpa using h1), qW h, aO (by omega) (by omega), LJ (by omega) (by omega)]
      simp only [bT, List.map_cons, List.map_nil, dgt]
      congr 3
    · have h1 : ¬ ((n : Int) < 10) := by omega
      rw [if_neg (by simpa using h1)]
      have e1 : Int.tdiv (n : Int) 10 = ((n / 10 : Nat) : Int) := by
        rw [Int.tdiv_eq_ediv_of_nonneg (by omega)]; omega
      have e2 : Int.tmod (n : Int) 10 = ((n % 10 : Nat) : Int) := by
        rw [Int.tmod_eq_emod_of_nonneg (by omega)]; omega
      rw [e1, e2, aO (x := ((n / 10 : Nat) : Int)) (by omega) (by omega), ih _ (by omega) (by omega), aO (by omega) (by omega), LJ (by omega) (by omega)]
      have e3 : bT [(48 + ((n % 10 : Nat) : Int))] = [dgt (n % 10)] := by
        simp only [bT, List.map_cons, List.map_nil, dgt]
        congr 2
      have hl := UF 18 (n / 10) (by omega)
      simp only [Option.bind_eq_bind, Option.bind_some, e3]
      rw [if_pos (by simp only [List.length_cons, List.length_nil]; omega), Ce h]

theorem Nh (s : List UInt8) (hs : s.length < 9223372036854775808) : ∀ (k n : Nat) (v : Nat), n + k = s.length → v ≤ 1099511627776 → (∀ c ∈ s.drop n, 48 ≤ c.toNat ∧ c.toNat ≤ 57) → Ew v (s.drop n) ≤ 1099511627776 →
    uD s (v : Int) (n : Int) = some (.inl (((Ew v (s.drop n) : Nat) : Int), (s.length : Int)))
  | 0, n, v, h, hv, hc, hw => by
    rw [uD]
    have : n = s.length := by omega
    subst this
    simp [Ew]
  | k + 1, n, v, h, hv, hc, hw => by
    rw [uD]
    have hn : n < s.length := by omega
    have hw1 : IntKind.wrap .i64 ((n : Int) + 1) = ((n + 1 : Nat) : Int) := by rw [aO (by omega) (by omega)]; omega
    have hd : s.drop n = s[n] :: s.drop (n + 1) := by simp
    have h1 : ((n : Int) < (s.length : Int)) := by omega
    have h0 : (0 : Int) ≤ (n : Int) := by omega
    rw [hd] at hc hw
    have hc1 := hc _ List.mem_cons_self
    rw [Og] at hw
    have hm := WV (v * 10 + (s[n].toNat - 48)) (s.drop (n + 1))
    rw [AU hn, hw1, hd]
    simp only [h1, h0, decide_true, if_true, and_self]
    rw [if_neg (by simp; omega), if_neg (by simp; omega)]
    have e1 : IntKind.wrap .i64 (IntKind.wrap .i64 ((v : Int) * 10) + IntKind.wrap .i64 (IntKind.wrap .u8 ((s[n].toNat : Int) - 48))) = ((v * 10 + (s[n].toNat - 48) : Nat) : Int) := by
      rw [LJ (by omega) (by omega), aO (x := (s[n].toNat : Int) - 48) (by omega) (by omega), aO (x := (v : Int) * 10) (by omega) (by omega), aO (by omega) (by omega)]
      omega
    rw [e1, Nh s hs k (n + 1) (v * 10 + (s[n].toNat - 48)) (by omega) (by omega) (fun c hc2 => hc c (List.mem_cons_of_mem _ hc2)) hw, Og]

theorem XQ {n : Nat} (hn : 0 < n) : ∃ c r, dig n = c :: r ∧ c.toNat ≠ 48 := by
  induction n using Nat.strongRecOn with
  | ind n ih =>
    by_cases h : n < 10
    · exact ⟨dgt n, [], qW h, by rw [EN h]; omega⟩
    · obtain ⟨c, r, h1, h2⟩ := ih (n / 10) (by omega) (by omega)
      exact ⟨c, r ++ [dgt (n % 10)], by rw [Ce h, h1]; rfl, h2⟩

theorem QC {n : Nat} (hn : n ≤ 1099511627776) : f140 (dig n) = some (n : Int) := by
  have hl := Gv hn
  have hp := OQ n
  have h0 := Nh (dig n) (by omega) (dig n).length 0 0 (by omega) (by omega) (by rw [List.drop_zero]; exact UE n) (by rw [List.drop_zero, Gi]; exact hn)
  rw [show (((0 : Nat) : Int)) = (0 : Int) from rfl, List.drop_zero, Gi] at h0
  unfold f140
  rw [h0]
  simp only [Option.bind_eq_bind, Option.bind_some]
  have hne : dig n ≠ [] := fun e => by rw [e] at hp; simp at hp
  rw [if_neg (by simpa using hne), if_pos (by omega)]
  rw [if_neg]
  simp only [Bool.or_eq_true, Bool.and_eq_true, not_or, not_and]
  refine ⟨fun h1 => ?_, by simp; omega⟩
  by_cases c : n = 0
  · subst c
    rw [qW (by decide)]
    decide
  · obtain ⟨c, r, h2, h3⟩ := XQ (n := n) (by omega)
    rw [h2] at h1
    have : btS (c :: r) 0 = (c.toNat : Int) := by
      have := AU (s := c :: r) (n := 0) (by simp)
      simpa using this
    rw [this] at h1
    simp at h1
    omega

abbrev nmL : List UInt8 := [99, 109, 100, 115]
theorem aan : f95 nmL = some true := by
  unfold f95
  rw [ui, ui, ui, ui, ui]
  rfl

noncomputable def bI (n : Nat) : List UInt8 := [99, 109, 100, 115, 46] ++ dig n
theorem Np {m n : Nat} (h : bI m = bI n) : m = n := aab (List.append_cancel_left h)
theorem Cj {n : Nat} (h : n ≤ 1099511627776) : (bI n).length ≤ 18 := by
  have := Gv h
  unfold bI
  rw [List.length_append]; simp only [List.length_cons, List.length_nil]; omega
theorem wz {n : Nat} (h : n ≤ 1099511627776) : G6 (bI n) = true := by
  have hl := Cj h
  unfold G6
  have h1 : (bI n).all okc = true := by
    unfold bI
    rw [List.all_append, Bool.and_eq_true]
    refine ⟨by decide, List.all_eq_true.2 (fun c hc => aaz (UE n c hc))⟩
  have h2 : 0 < (bI n).length := by unfold bI; rw [List.length_append]; simp only [List.length_cons]; omega
  rw [h1]
  simp only [Bool.true_and, Bool.and_eq_true, decide_eq_true_eq]
  omega

noncomputable def nK (n : Nat) (x : List UInt8) : List UInt8 := BR (mJ n ++ x)
noncomputable def ig (n : Nat) (x : List UInt8) : List UInt8 := mJ (nK n x).length ++ nK n x

abbrev OkR (x : List UInt8) : Prop := x.length ≤ 1024
abbrev OkN (n : Nat) : Prop := n < 4611686018427387904

theorem BN {n : Nat} {x : List UInt8} (hn : OkN n) (hx : OkR x) : (nK n x).length ≤ 1038 := by
  have := uY (n := n) (by unfold OkN at hn; omega)
  unfold nK
  rw [Hg, List.length_append]
  unfold OkR at hx; omega

theorem KU {n : Nat} {x : List UInt8} (hn : OkN n) (hx : OkR x) : (ig n x).length ≤ 1048 := by
  have h1 := BN hn hx
  have := uY (n := (nK n x).length) (by omega)
  unfold ig
  rw [List.length_append]; omega

theorem YZ (n : Nat) : 0 < (mJ n).length := by
  unfold mJ bT; rw [List.length_map]; exact Vr _

theorem KW (n : Nat) (x : List UInt8) : 0 < (ig n x).length := by
  have := YZ (nK n x).length
  unfold ig; rw [List.length_append]; omega

theorem Tu {n : Nat} {x : List UInt8} (hn : OkN n) (hx : OkR x) : f99 (n : Int) x = some (ig n x) := by
  unfold OkN at hn
  have h0 := uY (n := n) (by omega)
  have h1 := BN hn hx
  have h2 := uY (n := (nK n x).length) (by omega)
  unfold OkR at hx
  unfold f99
  rw [JO (by omega)]
  simp only [Option.bind_eq_bind, Option.bind_some]
  rw [if_pos (by omega), abI (by rw [List.length_append]; omega)]
  have e : BR (mJ n ++ x) = nK n x := rfl
  rw [e]
  simp only [Option.bind_some]
  rw [JO (by omega)]
  simp only [Option.bind_some]
  rw [if_pos (by omega)]
  rfl

theorem VY {s rest x : List UInt8} {p n : Nat} (hs : s.length < 4611686018427387904) (hp : p ≤ s.length) (hn : OkN n) (hx : OkR x) (hd : s.drop p = ig n x ++ rest) :
    f94 s (p : Int) (n : Int) = some (x, ((p + (ig n x).length : Nat) : Int), true) := by
  unfold OkN at hn
  have hT := BN hn hx
  have hlen : p + (ig n x).length + rest.length = s.length := by
    have := congrArg List.length hd
    rw [List.length_drop, List.length_append] at this; omega
  have hB : (ig n x).length = (mJ (nK n x).length).length + (nK n x).length := by unfold ig; rw [List.length_append]
  have hd2 : s.drop p = mJ (nK n x).length ++ (nK n x ++ rest) := by rw [hd]; unfold ig; rw [List.append_assoc]
  unfold f94
  rw [QB (k := (nK n x).length) (by omega) (by omega) hp hd2]
  simp only [Option.bind_eq_bind, Option.bind_some]
  have hw1 : IntKind.wrap .i64 ((s.length : Int) - ((p + (mJ (nK n x).length).length : Nat) : Int)) = (s.length : Int) - ((p + (mJ (nK n x).length).length : Nat) : Int) := aO (by omega) (by omega)
  have hw2 : IntKind.wrap .i64 (((p + (mJ (nK n x).length).length : Nat) : Int) + ((nK n x).length : Int)) = ((p + (ig n x).length : Nat) : Int) := by rw [aO (by omega) (by omega)]; omega
  rw [hw1, hw2, if_neg (by simp; omega), if_pos (by omega)]
  have hi1 : Int.toNat ((p + (ig n x).length : Nat) : Int) = p + (ig n x).length := by omega
  have hi2 : Int.toNat ((p + (mJ (nK n x).length).length : Nat) : Int) = p + (mJ (nK n x).length).length := by omega
  have hsub : (s.take (p + (ig n x).length)).drop (p + (mJ (nK n x).length).length) = nK n x := by
    rw [List.drop_take, ← List.drop_drop, hd2]
    have : p + (ig n x).length - (p + (mJ (nK n x).length).length) = (nK n x).length := by omega
    rw [this, List.drop_left, List.take_left]
  rw [hi1, hi2, hsub]
  rcases aaj (s := nK n x) (by omega) with ⟨t, h1, h2⟩ | ⟨h1, _⟩
  · have e : Ig (nK n x) = some (mJ n ++ x) := KO _
    rw [e] at h1
    simp only [Option.some.injEq] at h1
    subst h1
    rw [h2, JO (by omega)]
    have hnl := uY (n := n) (by omega)
    unfold OkR at hx
    simp only [Option.bind_some]
    have hi3 : Int.toNat (((mJ n).length : Nat) : Int) = (mJ n).length := by omega
    have hw3 : IntKind.wrap .i64 (((mJ n ++ x).length : Int) - ((mJ n).length : Int)) = (x.length : Int) := by
      rw [List.length_append, aO (by omega) (by omega)]; omega
    have hg : (0 : Int) ≤ ((mJ n).length : Int) ∧ ((mJ n).length : Int) ≤ ((mJ n ++ x).length : Int) := by rw [List.length_append]; omega
    rw [if_neg (by simp), if_neg (by simp; omega), if_pos hg, hi3, hw3, if_neg (by simp; omega), if_pos hg]
    simp
  · have e : Ig (nK n x) = some (mJ n ++ x) := KO _
    rw [e] at h1; cases h1

theorem Yi {s t x : List UInt8} {p n : Nat} (hs : s.length < 4611686018427387904) (hp : p ≤ s.length) (hn : OkN n) (hx : OkR x) (hd : s.drop p = t) (ht : t <+: ig n x) (hl : t.length < (ig n x).length) :
    f94 s (p : Int) (n : Int) = some ([], 0, false) := by
  have hT := BN hn hx
  have hlen : p + t.length = s.length := by
    have := congrArg List.length hd
    rw [List.length_drop] at this; omega
  have hB : (ig n x).length = (mJ (nK n x).length).length + (nK n x).length := by unfold ig; rw [List.length_append]
  unfold f94
  by_cases c : t.length < (mJ (nK n x).length).length
  · rw [VV (k := (nK n x).length) (by omega) (by omega) hp hd (List.prefix_of_prefix_length_le ht (by unfold ig; exact List.prefix_append _ _) (by omega)) c]
    rfl
  · have h2 : mJ (nK n x).length <+: t := List.prefix_of_prefix_length_le (by unfold ig; exact List.prefix_append _ _) ht (by omega)
    obtain ⟨r, hr⟩ := h2
    rw [QB (k := (nK n x).length) (rest := r) (by omega) (by omega) hp (by rw [hd, hr])]
    simp only [Option.bind_eq_bind, Option.bind_some]
    have hw1 : IntKind.wrap .i64 ((s.length : Int) - ((p + (mJ (nK n x).length).length : Nat) : Int)) = (s.length : Int) - ((p + (mJ (nK n x).length).length : Nat) : Int) := aO (by omega) (by omega)
    rw [hw1, if_pos (by simp; right; omega)]

noncomputable def gB : Nat → List (List UInt8) → List UInt8
  | _, [] => []
  | n, x :: r => ig n x ++ gB (n + 1) r

theorem zl : ∀ (n : Nat) (l l' : List (List UInt8)), gB n (l ++ l') = gB n l ++ gB (n + l.length) l'
  | n, [], l' => by simp [gB]
  | n, x :: r, l' => by
    have := zl (n + 1) r l'
    simp only [List.cons_append, gB, this, List.append_assoc, List.length_cons]
    have e : n + 1 + r.length = n + (r.length + 1) := by omega
    rw [e]

theorem Ru : ∀ (n : Nat) (l : List (List UInt8)), OkN (n + l.length) → (∀ x ∈ l, OkR x) → (gB n l).length ≤ l.length * 1048
  | n, [], _, _ => by simp [gB]
  | n, x :: r, hn, hx => by
    have hn' : n + (r.length + 1) < 4611686018427387904 := hn
    have h1 := KU (n := n) (x := x) (by unfold OkN; omega) (hx x List.mem_cons_self)
    have h2 := Ru (n + 1) r (by unfold OkN; omega) (fun y hy => hx y (List.mem_cons_of_mem _ hy))
    simp only [gB, List.length_append, List.length_cons]
    omega

noncomputable def ED (n : Nat) (t : List UInt8) : Prop := ∃ x, OkR x ∧ t <+: ig n x ∧ t.length < (ig n x).length

theorem ED.nil (n : Nat) : ED n [] := ⟨[], by decide, List.nil_prefix, KW n []⟩

theorem QF (s : List UInt8) (f : Nat) (hs : s.length < 1099511627776) (t : List UInt8) : ∀ (rem pre : List (List UInt8)), s = gB f pre ++ (gB (f + pre.length) rem ++ t) → OkN (f + pre.length + rem.length) → (∀ x ∈ rem, OkR x) → ED (f + pre.length + rem.length) t → pre.length ≤ s.length →
    yt s (f : Int) pre (((gB f pre).length : Nat) : Int) = some (pre ++ rem, ((gB f (pre ++ rem)).length : Int))
  | [], pre, hse, hn, hx, ⟨y, hy, ht, htl⟩, hpl => by
    rw [yt]
    simp only [List.length_nil, Nat.add_zero] at hn ht htl
    have hn' : f + pre.length < 4611686018427387904 := hn
    have hl : (gB f pre).length ≤ s.length := by rw [hse]; simp
    have hd : s.drop (gB f pre).length = t := by rw [hse]; simp [gB]
    have hw : IntKind.wrap .i64 ((f : Int) + (pre.length : Int)) = ((f + pre.length : Nat) : Int) := by rw [aO (by omega) (by omega)]; omega
    rw [if_pos (by simp), hw, Yi (by omega) hl hn hy hd ht htl]
    simp
  | x :: rem, pre, hse, hn, hx, ht, hpl => by
    rw [yt]
    have hn' : f + pre.length + (rem.length + 1) < 4611686018427387904 := hn
    have hxx := hx x List.mem_cons_self
    have hl : (gB f pre).length ≤ s.length := by rw [hse]; simp
    have hd : s.drop (gB f pre).length = ig (f + pre.length) x ++ (gB (f + pre.length + 1) rem ++ t) := by rw [hse]; simp [gB]
    have hw : IntKind.wrap .i64 ((f : Int) + (pre.length : Int)) = ((f + pre.length : Nat) : Int) := by rw [aO (by omega) (by omega)]; omega
    have hpos := KW (f + pre.length) x
    have hgr : (gB f pre).length + (ig (f + pre.length) x).length ≤ s.length := by
      have := congrArg List.length hd
      rw [List.length_drop, List.length_append] at this; omega
    rw [if_pos (by simp), hw, VY (by omega) hl (by unfold OkN; omega) hxx hd]
    simp only [Option.bind_eq_bind, Option.bind_some, Bool.not_true, Bool.false_eq_true, if_false]
    rw [if_pos (by omega)]
    have hlen1 : (pre ++ [x]).length = pre.length + 1 := by simp
    have hseg : gB f (pre ++ [x]) = gB f pre ++ ig (f + pre.length) x := by rw [zl]; simp [gB]
    have hpl2 : ∀ (n : Nat) (l : List (List UInt8)), l.length ≤ (gB n l).length := by
      intro n l
      induction l generalizing n with
      | nil => simp
      | cons a r ih =>
        have := ih (n + 1)
        have := KW n a
        simp only [gB, List.length_append, List.length_cons]; omega
    have ht2 : ED (f + (pre ++ [x]).length + rem.length) t := by
      have e : f + (pre ++ [x]).length + rem.length = f + pre.length + (x :: rem).length := by simp only [List.length_append, List.length_cons, List.length_nil]; omega
      rw [e]; exact ht
    have hs2 : s = gB f (pre ++ [x]) ++ (gB (f + (pre ++ [x]).length) rem ++ t) := by
      rw [hse, hseg, hlen1]
      simp only [gB, List.append_assoc]
      rfl
    have := QF s f hs t rem (pre ++ [x]) hs2 (by rw [hlen1]; unfold OkN; omega) (fun y hy => hx y (List.mem_cons_of_mem _ hy)) ht2 (by have h5 := hpl2 f (pre ++ [x]); rw [hseg] at h5; have h6 : (gB f pre ++ ig (f + pre.length) x).length = (gB f pre).length + (ig (f + pre.length) x).length := List.length_append; omega)
    have e1 : ((gB f (pre ++ [x])).length : Int) = (((gB f pre).length + (ig (f + pre.length) x).length : Nat) : Int) := by rw [hseg, List.length_append]
    rw [e1] at this
    rw [this]
    simp

theorem abA {s t : List UInt8} {f : Nat} {recs : List (List UInt8)} (hs : s.length < 1099511627776) (hse : s = gB f recs ++ t) (hn : OkN (f + recs.length)) (hx : ∀ x ∈ recs, OkR x) (ht : ED (f + recs.length) t) :
    f49 s (f : Int) = some (recs, ((gB f recs).length : Int)) := by
  unfold f49
  have := QF s f hs t recs [] (by simpa [gB] using hse) (by simpa using hn) hx (by simpa using ht) (by simp)
  simp only [gB, List.length_nil, List.nil_append] at this
  rw [show (((0 : Nat) : Int)) = (0 : Int) from rfl] at this
  rw [this]
  rfl

theorem NW : ∀ (n : Nat) (l : List (List UInt8)) (j : Nat), (∀ x ∈ l, OkR x) → ∃ m t, m ≤ l.length ∧ (gB n l).take j = gB n (l.take m) ++ t ∧ ED (n + m) t
  | n, [], j, _ => ⟨0, [], Nat.le_refl _, by simp [gB], ED.nil _⟩
  | n, x :: r, j, hx => by
    by_cases c : j < (ig n x).length
    · refine ⟨0, (ig n x).take j, Nat.zero_le _, ?_, x, hx x List.mem_cons_self, List.take_prefix _ _, ?_⟩
      · simp only [gB, List.take_zero, List.nil_append]
        rw [List.take_append_of_le_length (by omega)]
      · rw [List.length_take, Nat.add_zero]; omega
    · obtain ⟨m, t, h1, h2, h3⟩ := NW (n + 1) r (j - (ig n x).length) (fun y hy => hx y (List.mem_cons_of_mem _ hy))
      have e : n + (m + 1) = n + 1 + m := by omega
      refine ⟨m + 1, t, by simp only [List.length_cons]; omega, ?_, by rw [e]; exact h3⟩
      simp only [gB, List.take_succ_cons]
      rw [List.take_append, List.take_of_length_le (l := ig n x) (by omega), h2, List.append_assoc]
end Go.Proofs.YtbnmhjobnepajaaGreat.M


namespace Go.Proofs.YtbnmhjobnepajaaGreat.M

abbrev FR : Type := List UInt8 × List UInt8 × List UInt8 × Unit
abbrev AD : Type := Int × List FR × Int × Bool × Unit
theorem ltr {a b c : List UInt8} (h1 : a < b) (h2 : b < c) : a < c := List.lt_trans h1 h2
theorem acM (a : List UInt8) : ¬ a < a := List.lt_irrefl a
theorem lne {a b : List UInt8} (h : a < b) : a ≠ b := fun e => acM b (e ▸ h)
theorem acx {a b : List UInt8} (h1 : ¬ a < b) (h2 : a ≠ b) : b < a := by
  have h : b ≤ a := List.not_lt.1 h1
  rcases List.le_iff_lt_or_eq.1 h with h | h
  · exact h
  · exact absurd h.symm h2

noncomputable def gV (f : FR) : Nat := f.2.1.length + f.2.2.1.length
noncomputable def iL : List FR → Nat
  | [] => 0
  | f :: r => gV f + iL r
noncomputable def jE (s : List UInt8) : List FR → Option FR
  | [] => none
  | f :: r => cond (f.1 == s) (some f) (jE s r)
noncomputable def lW (f : FR) : Bool → List FR → List FR
  | done, [] => cond done [] [f]
  | done, g :: r => (cond (!done && !decide (g.1 < f.1)) [f] []) ++ ((cond (g.1 == f.1) [] [g]) ++ lW f (done || !decide (g.1 < f.1)) r)
noncomputable def jU (s : List UInt8) : List FR → List FR
  | [] => []
  | f :: r => (cond (f.1 == s) [] [f]) ++ jU s r

theorem Gf (l l' : List FR) : iL (l ++ l') = iL l + iL l' := by
  induction l with
  | nil => simp [iL]
  | cons f r ih => simp only [List.cons_append, iL, ih]; omega

theorem uA {l l' : List FR} (h : l.Perm l') : iL l = iL l' := by
  induction h with
  | nil => rfl
  | cons f _ ih => simp [iL, ih]
  | swap f g r => simp only [iL]; omega
  | trans _ _ h1 h2 => rw [h1, h2]

theorem mW (s : List UInt8) (L : List FR) : jU s L = L.filter (fun g => !(g.1 == s)) := by
  induction L with
  | nil => rfl
  | cons f r ih =>
    cases h : (f.1 == s)
    · rw [List.filter_cons_of_pos (by simp [h])]; simp [jU, h, ih]
    · rw [List.filter_cons_of_neg (by simp [h])]; simp [jU, h, ih]

theorem NY (f : FR) (L : List FR) : lW f true L = jU f.1 L := by
  induction L with
  | nil => rfl
  | cons g r ih => simp [lW, jU, ih]

theorem nz (f : FR) (L : List FR) : (lW f false L).Perm (f :: jU f.1 L) := by
  induction L with
  | nil => exact List.Perm.refl _
  | cons g r ih =>
    simp only [lW, jU]
    by_cases h : g.1 < f.1
    · have hb : (g.1 == f.1) = false := by simpa using lne h
      simp only [h, decide_true, Bool.not_true, Bool.and_false, cond_false, hb, Bool.or_self, List.nil_append, List.singleton_append]
      exact (List.Perm.cons g ih).trans (List.Perm.swap f g _)
    · simp only [h, decide_false, Bool.not_false, Bool.and_self, cond_true, Bool.or_true, NY, List.singleton_append]
      exact List.Perm.refl _

theorem ND {s : List UInt8} {L : List FR} {g : FR} : g ∈ jU s L ↔ g ∈ L ∧ g.1 ≠ s := by
  rw [mW, List.mem_filter]; simp

theorem FQ {f : FR} {L : List FR} {g : FR} : g ∈ lW f false L ↔ g = f ∨ (g ∈ L ∧ g.1 ≠ f.1) := by
  rw [(nz f L).mem_iff, List.mem_cons, ND]

abbrev qf (L : List FR) : Prop := L.Pairwise (fun f g => f.1 < g.1)

theorem qf.drop {L : List FR} (h : qf L) (s : List UInt8) : qf (jU s L) := by
  rw [mW]; exact h.filter _

theorem qf.set {f : FR} {L : List FR} (h : qf L) : qf (lW f false L) := by
  induction L with
  | nil => simp [lW, qf]
  | cons g r ih =>
    have hr := List.pairwise_cons.1 h
    simp only [lW]
    by_cases hg : g.1 < f.1
    · have hb : (g.1 == f.1) = false := by simpa using lne hg
      simp only [hg, decide_true, Bool.not_true, Bool.and_false, cond_false, hb, Bool.or_self, List.nil_append, List.singleton_append]
      refine List.pairwise_cons.2 ⟨fun x hx => ?_, ih hr.2⟩
      rcases FQ.1 hx with rfl | ⟨hx, _⟩
      · exact hg
      · exact hr.1 x hx
    · simp only [hg, decide_false, Bool.not_false, Bool.and_self, cond_true, Bool.or_true, NY, List.singleton_append]
      have hd : qf (cond (g.1 == f.1) [] [g] ++ jU f.1 r) := h.drop f.1
      refine List.pairwise_cons.2 ⟨fun x hx => ?_, hd⟩
      have hx' : x ∈ jU f.1 (g :: r) := hx
      obtain ⟨hx1, hx2⟩ := ND.1 hx'
      rcases List.mem_cons.1 hx1 with rfl | hx1
      · exact acx hg hx2
      · by_cases he : g.1 = f.1
        · rw [← he]; exact hr.1 x hx1
        · exact ltr (acx hg he) (hr.1 x hx1)

theorem qO {s : List UInt8} {L : List FR} {f : FR} (h : jE s L = some f) : f ∈ L ∧ f.1 = s := by
  induction L with
  | nil => simp [jE] at h
  | cons g r ih =>
    simp only [jE] at h
    cases hg : (g.1 == s)
    · rw [hg] at h; obtain ⟨h1, h2⟩ := ih h; exact ⟨List.mem_cons_of_mem _ h1, h2⟩
    · rw [hg] at h; simp only [cond_true, Option.some.injEq] at h; subst h; exact ⟨List.mem_cons_self, by simpa using hg⟩

theorem JU {s : List UInt8} {L : List FR} (h : jE s L = none) : ∀ f ∈ L, f.1 ≠ s := by
  induction L with
  | nil => simp
  | cons g r ih =>
    simp only [jE] at h
    cases hg : (g.1 == s)
    · rw [hg] at h
      intro f hf
      rcases List.mem_cons.1 hf with rfl | hf
      · simpa using hg
      · exact ih h f hf
    · rw [hg] at h; simp at h

theorem ET {s : List UInt8} {L : List FR} (hs : qf L) {f : FR} (h1 : f ∈ L) (h2 : f.1 = s) : jE s L = some f := by
  induction L with
  | nil => simp at h1
  | cons g r ih =>
    have hr := List.pairwise_cons.1 hs
    simp only [jE]
    rcases List.mem_cons.1 h1 with rfl | h1
    · simp [h2]
    · have : (g.1 == s) = false := by
        have := lne (hr.1 f h1); rw [h2] at this; simpa using this
      rw [this]; exact ih hr.2 h1

theorem Yk {s : List UInt8} {L : List FR} (h : ∀ f ∈ L, f.1 ≠ s) : jE s L = none := by
  cases hf : jE s L with
  | none => rfl
  | some f => obtain ⟨h1, h2⟩ := qO hf; exact absurd h2 (h f h1)

theorem zy {s : List UInt8} {L : List FR} (h : jE s L = none) : jU s L = L := by
  rw [mW, List.filter_eq_self]
  intro f hf
  simpa using JU h f hf

theorem Ec {s : List UInt8} {L : List FR} (hs : qf L) {f : FR} (h : jE s L = some f) : L.Perm (f :: jU s L) := by
  induction L with
  | nil => simp [jE] at h
  | cons g r ih =>
    have hr := List.pairwise_cons.1 hs
    simp only [jE] at h
    cases hg : (g.1 == s)
    · rw [hg] at h
      simp only [jU, hg, cond_false, List.singleton_append]
      exact (List.Perm.cons g (ih hr.2 h)).trans (List.Perm.swap f g _)
    · rw [hg] at h; simp only [cond_true, Option.some.injEq] at h; subst h
      simp only [jU, hg, cond_true, List.nil_append]
      have : jU s r = r := by
        rw [mW, List.filter_eq_self]
        intro x hx
        have h1 := lne (hr.1 x hx)
        have h2 : g.1 = s := by simpa using hg
        rw [h2] at h1
        simpa using fun e => h1 e.symm
      rw [this]

noncomputable def pM (keep : List Int) (n : Nat) : Nat := match keep with
  | [] => 0
  | x :: _ => (if 0 < x then Int.tmod x (n + 1) else 0).toNat

noncomputable def jA : List FR → List Int → List FR
  | [], _ => []
  | f :: r, keep => cond f.2.2.1.isEmpty ((f.1, f.2.1, [], ()) :: jA r keep) ((f.1, f.2.1 ++ f.2.2.1.take (pM keep f.2.2.1.length), [], ()) :: jA r keep.tail)

theorem Yx (keep : List Int) (n : Nat) : pM keep n ≤ n := by
  cases keep with
  | nil => simp [pM]
  | cons x r =>
    simp only [pM]
    split
    · have := Int.tmod_lt_of_pos x (b := (n : Int) + 1) (by omega)
      omega
    · simp

noncomputable def pG (A : AD) (L : List FR) : AD := (A.1, L, A.2.2.1, A.2.2.2.1, ())
noncomputable def uM (A : AD) : Bool × AD := if A.2.2.1 = 0 then (false, A) else (A.2.2.1 == 1, (A.1, A.2.1, A.2.2.1 - 1, A.2.2.1 == 1, ()))
noncomputable def vF (A : AD) (k : AD → AD) : Int × AD := if (uM A).1 = true then (11, (uM A).2) else (0, k (uM A).2)
noncomputable def lI (s : List UInt8) : FR := (s, [], [], ())
noncomputable def ru (f : FR) (b : List UInt8) : FR := (f.1, f.2.1, f.2.2.1 ++ b, ())
noncomputable def BQ (s : List UInt8) (f : FR) : FR := (s, f.2.1 ++ f.2.2.1, [], ())
noncomputable def Gu (s : List UInt8) (f : FR) (n : Nat) : FR := if n ≤ f.2.1.length then (s, f.2.1.take n, [], ()) else (s, f.2.1, f.2.2.1.take (n - f.2.1.length), ())
abbrev full (A : AD) (s b : List UInt8) : Prop := ((jE s A.2.1).isNone = true ∧ 128 ≤ A.2.1.length) ∨ (65536 < b.length + gV ((jE s A.2.1).getD (lI s))) ∨ A.1 < (b.length : Int) + iL A.2.1

noncomputable def uB (A : AD) (s b : List UInt8) : Int × AD :=
  if A.2.2.2.1 = true then (11, A) else if G6 s = false then (2, A) else
  if full A s b then (10, A) else
  vF (pG A (lW (ru ((jE s A.2.1).getD (lI s)) b) false A.2.1)) id

noncomputable def NZ (A : AD) (s : List UInt8) (k : FR → Int × AD) : Int × AD :=
  if A.2.2.2.1 = true then (11, A) else match jE s A.2.1 with
    | none => (8, A)
    | some f => k f

noncomputable def Lt (A : AD) (s : List UInt8) : Int × AD := NZ A s fun f => vF A (fun B => pG B (lW (BQ s f) false B.2.1))
noncomputable def PV (A : AD) (s : List UInt8) (n : Int) : Int × AD := NZ A s fun f => if n < 0 ∨ (gV f : Int) < n then (3, A) else vF A (fun B => pG B (lW (Gu s f n.toNat) false B.2.1))
noncomputable def AX (A : AD) (keep : List Int) : AD := (A.1, jA A.2.1 keep, 0, false, ())
noncomputable def readA (A : AD) (s : List UInt8) : List UInt8 × Int := if A.2.2.2.1 = true then ([], 11) else match jE s A.2.1 with
  | none => ([], 8)
  | some f => (f.2.1 ++ f.2.2.1, 0)
structure OkA (A : AD) : Prop where
  sorted : qf A.2.1
  files : A.2.1.length ≤ 128
  each : ∀ f ∈ A.2.1, gV f ≤ 65536
  used : (iL A.2.1 : Int) ≤ A.1
  room : A.1 ≤ 1048576
  armed : 0 ≤ A.2.2.1 ∧ A.2.2.1 < 9223372036854775808

theorem OkA.goes {A : AD} (h : OkA A) : OkA (uM A).2 := by
  unfold uM
  split
  · exact h
  · obtain ⟨h1, h2, h3, h4, h5, h6⟩ := h
    exact ⟨h1, h2, h3, h4, h5, by have := h6; simp only; omega⟩

theorem UY (A : AD) : (uM A).2.2.1 = A.2.1 ∧ (uM A).2.1 = A.1 := by
  unfold uM; split <;> exact ⟨rfl, rfl⟩

theorem Ll (f : FR) (L : List FR) : (lW f false L).length = (jU f.1 L).length + 1 := by
  rw [(nz f L).length_eq]; rfl

theorem Ho (f : FR) (L : List FR) : iL (lW f false L) = gV f + iL (jU f.1 L) := by
  rw [uA (nz f L)]; rfl

theorem OkA.put {A : AD} (h : OkA A) {g f : FR} {s : List UInt8} (hf : jE s A.2.1 = some f) (hg : g.1 = s) (hle : gV g ≤ gV f) : OkA (pG A (lW g false A.2.1)) := by
  obtain ⟨h1, h2, h3, h4, h5, h6⟩ := h
  have hp := Ec h1 hf
  have hl := hp.length_eq
  have hu := uA hp
  simp only [List.length_cons, iL] at hl hu
  refine ⟨h1.set, ?_, ?_, ?_, h5, h6⟩
  · simp only [pG, Ll, hg]; omega
  · intro x hx
    rcases FQ.1 hx with rfl | ⟨hx, _⟩
    · exact Nat.le_trans hle (h3 f (qO hf).1)
    · exact h3 x hx
  · simp only [pG, Ho, hg]; omega

theorem Eb : ∀ (L : List FR) (keep : List Int), (jA L keep).length = L.length
  | [], _ => rfl
  | f :: r, keep => by
    unfold jA
    cases f.2.2.1.isEmpty
    · simp [Eb r]
    · simp [Eb r]

theorem zx : ∀ (L : List FR) (keep : List Int), (jA L keep).map (·.1) = L.map (·.1)
  | [], _ => rfl
  | f :: r, keep => by
    unfold jA
    cases f.2.2.1.isEmpty
    · simp [zx r]
    · simp [zx r]

theorem AZ : ∀ (L : List FR) (keep : List Int), iL (jA L keep) ≤ iL L
  | [], _ => Nat.le_refl _
  | f :: r, keep => by
    unfold jA
    have h1 := AZ r keep
    have h2 := AZ r keep.tail
    cases f.2.2.1.isEmpty
    · simp only [cond_false, iL, gV, List.length_append, List.length_take, List.length_nil]; omega
    · simp only [cond_true, iL, gV, List.length_nil]; omega

theorem AY {m : Nat} : ∀ (L : List FR) (keep : List Int), (∀ f ∈ L, gV f ≤ m) → ∀ f ∈ jA L keep, gV f ≤ m
  | [], _, _ => by simp [jA]
  | f :: r, keep, h => by
    have hf := h f List.mem_cons_self
    have h1 := AY r keep (fun x hx => h x (List.mem_cons_of_mem _ hx))
    have h2 := AY r keep.tail (fun x hx => h x (List.mem_cons_of_mem _ hx))
    unfold jA
    unfold gV at hf
    intro x hx
    cases hb : f.2.2.1.isEmpty
    · rw [hb] at hx
      simp only [cond_false, List.mem_cons] at hx
      rcases hx with rfl | hx
      · simp only [gV, List.length_append, List.length_take, List.length_nil]; omega
      · exact h2 x hx
    · rw [hb] at hx
      simp only [cond_true, List.mem_cons] at hx
      rcases hx with rfl | hx
      · simp only [gV, List.length_nil]; omega
      · exact h1 x hx

theorem Hw {L L' : List FR} (h : L.map (·.1) = L'.map (·.1)) (hs : qf L) : qf L' := by
  have h1 : (L.map (·.1)).Pairwise (· < ·) := List.pairwise_map.2 hs
  rw [h] at h1
  exact List.pairwise_map.1 h1

theorem OkA.XC {A : AD} (h : OkA A) (keep : List Int) : OkA (AX A keep) := by
  obtain ⟨h1, h2, h3, h4, h5, h6⟩ := h
  have hl := Eb A.2.1 keep
  have hu := AZ A.2.1 keep
  refine ⟨Hw (zx A.2.1 keep).symm h1, ?_, AY _ _ h3, ?_, h5, ?_⟩
  · simp only [AX]; omega
  · simp only [AX]; omega
  · simp only [AX]; omega

theorem OkA.appended {A : AD} (h : OkA A) {s b : List UInt8} (hc : ¬ full A s b) : OkA (pG A (lW (ru ((jE s A.2.1).getD (lI s)) b) false A.2.1)) := by
  obtain ⟨h1, h2, h3, h4, h5, h6⟩ := h
  simp only [full, not_or, not_and, Nat.not_le, Nat.not_lt, Int.not_lt] at hc
  obtain ⟨c1, c2, c3⟩ := hc
  cases hf : jE s A.2.1 with
  | none =>
    rw [hf] at c1 c2
    have c1 := c1 rfl
    have hd := zy hf
    have e1 : (ru ((none : Option FR).getD (lI s)) b).1 = s := rfl
    refine ⟨h1.set, ?_, ?_, ?_, h5, h6⟩
    · simp only [pG, Ll, e1, hd]; omega
    · intro x hx
      rcases FQ.1 hx with rfl | ⟨hx, _⟩
      · simp only [Option.getD_none, gV, lI, ru, List.length_append, List.length_nil] at c2 ⊢; omega
      · exact h3 x hx
    · simp only [pG, Ho, e1, hd]
      simp only [Option.getD_none, gV, lI, ru, List.length_append, List.length_nil] at c2 ⊢; omega
  | some f =>
    rw [hf] at c1 c2
    have hn := (qO hf).2
    have hp := Ec h1 hf
    have hl := hp.length_eq
    have hu := uA hp
    simp only [List.length_cons, iL] at hl hu
    have e1 : (ru ((some f).getD (lI s)) b).1 = s := hn
    refine ⟨h1.set, ?_, ?_, ?_, h5, h6⟩
    · simp only [pG, Ll, e1]; omega
    · intro x hx
      rcases FQ.1 hx with rfl | ⟨hx, _⟩
      · simp only [Option.getD_some, gV, ru, List.length_append] at c2 ⊢; omega
      · exact h3 x hx
    · simp only [pG, Ho, e1]
      simp only [Option.getD_some, gV, ru, List.length_append] at c2 hu ⊢; omega

theorem Vp {A : AD} (hA : OkA A) : IntKind.wrap .i64 (A.1 - ((iL A.2.1 : Nat) : Int)) = A.1 - ((iL A.2.1 : Nat) : Int) := by
  have h1 := hA.used; have h2 := hA.room
  rw [aO (by omega) (by omega)]

end Go.Proofs.YtbnmhjobnepajaaGreat.M


namespace Go.Proofs.YtbnmhjobnepajaaGreat.M

abbrev ME : Type := List UInt8 × Option Nat

section
variable {m : List ME} {s : List UInt8}

noncomputable def Keys (m : List ME) : Prop := (m.map (·.1)).Nodup

theorem Ib (q : ME) (r : List ME) : bZ .str (.ptr au) s (q :: r) = cond (s == q.1) (some q.2) (bZ .str (.ptr au) s r) := by
  obtain ⟨k, v⟩ := q
  simp only [bZ, tZ]
  cases (s == k) <;> rfl

theorem TK (hk : Keys m) {v : Option Nat} (h : (s, v) ∈ m) : bZ .str (.ptr au) s m = some v := by
  induction m with
  | nil => simp at h
  | cons q r ih =>
    rw [Ib]
    unfold Keys at hk
    rw [List.map_cons, List.nodup_cons] at hk
    rcases List.mem_cons.1 h with rfl | h
    · simp
    · have : (s == q.1) = false := by
        have : s ≠ q.1 := fun e => hk.1 (by rw [← e]; exact List.mem_map.2 ⟨_, h, rfl⟩)
        simpa using this
      rw [this]; exact ih hk.2 h

theorem Wj (h : ∀ q ∈ m, q.1 ≠ s) : bZ .str (.ptr au) s m = none := by
  induction m with
  | nil => rfl
  | cons q r ih =>
    rw [Ib]
    have : (s == q.1) = false := by
      have := h q List.mem_cons_self
      simpa using fun e => this e.symm
    rw [this]; exact ih (fun q hq => h q (List.mem_cons_of_mem _ hq))

noncomputable def others (s : List UInt8) (m : List ME) : List ME := m.filter (fun q => !(q.1 == s))

theorem Q4 (h : ∀ q ∈ m, q.1 ≠ s) : others s m = m := by
  unfold others; rw [List.filter_eq_self]; intro q hq; simpa using h q hq

theorem QY (hk : Keys m) (v : Option Nat) : (nJ .str (.ptr au) s v m).Perm ((s, v) :: others s m) := by
  induction m with
  | nil => exact List.Perm.refl _
  | cons q r ih =>
    obtain ⟨k, u⟩ := q
    unfold Keys at hk
    rw [List.map_cons, List.nodup_cons] at hk
    simp only [nJ, tZ]
    cases hs : (s == k) with
    | true =>
      have he : s = k := by simpa using hs
      subst he
      have : others s ((s, u) :: r) = r := by
        unfold others
        rw [List.filter_cons_of_neg (by simp)]
        exact Q4 (fun q hq e => hk.1 (by rw [← e]; exact List.mem_map.2 ⟨q, hq, rfl⟩))
      rw [this]
    | false =>
      have : others s ((k, u) :: r) = (k, u) :: others s r := by
        unfold others
        rw [List.filter_cons_of_pos]
        have : s ≠ k := by simpa using hs
        simpa using fun e => this e.symm
      rw [this]
      exact (List.Perm.cons _ (ih hk.2)).trans (List.Perm.swap _ _ _)

end

noncomputable def cont (f : FR) : az eH := (f.2.1 ++ f.2.2.1, (f.2.1.length : Int), ())
noncomputable def entry (q : FR × Nat) : ME := (q.1.1, some q.2)
noncomputable def rest (s : List UInt8) (qs : List (FR × Nat)) : List (FR × Nat) := qs.filter (fun q => !(q.1.1 == s))

structure DVq (σ : St) (d n0 : Nat) (A : AD) (o : az dM) (qs : List (FR × Nat)) : Prop where
  ho : σ.af[d]? = some o
  room : o.1 = A.1
  armed : o.2.2.1 = A.2.2.1
  down : o.2.2.2.1 = A.2.2.2.1
  map : o.2.1.Perm (qs.map entry)
  files : (qs.map (·.1)).Perm A.2.1
  nodup : (qs.map (·.2)).Nodup
  lie : ∀ q ∈ qs, σ.ai[q.2]? = some (cont q.1) ∧ n0 ≤ q.2
  base : n0 ≤ σ.ai.length

noncomputable def DV (σ : St) (d n0 : Nat) (A : AD) : Prop := ∃ o qs, DVq σ d n0 A o qs

noncomputable def tV (σ : St) := (σ.up, σ.aj, σ.ae)

structure FrD (σ σ' : St) (d n0 : Nat) : Prop where
  oth : tV σ' = tV σ
  up : σ'.up = σ.up
  af : ∀ i, i ≠ d → i < σ.af.length → σ'.af[i]? = σ.af[i]?
  l105 : σ.af.length ≤ σ'.af.length
  ai : ∀ j, j < n0 → σ'.ai[j]? = σ.ai[j]?
  l108 : σ.ai.length ≤ σ'.ai.length

theorem FrD.refl (σ : St) (d n0 : Nat) : FrD σ σ d n0 := ⟨rfl, rfl, fun _ _ _ => rfl, Nat.le_refl _, fun _ _ => rfl, Nat.le_refl _⟩
theorem FrD.trans {σ σ' σ'' : St} {d n0 : Nat} (h1 : FrD σ σ' d n0) (h2 : FrD σ' σ'' d n0) : FrD σ σ'' d n0 :=
  ⟨h2.oth.trans h1.oth, h2.up.trans h1.up, fun i hi hl => (h2.af i hi (Nat.lt_of_lt_of_le hl h1.l105)).trans (h1.af i hi hl), Nat.le_trans h1.l105 h2.l105, fun j hj => (h2.ai j hj).trans (h1.ai j hj), Nat.le_trans h1.l108 h2.l108⟩

section
variable {σ : St} {d n0 : Nat} {A : AD} {o : az dM} {qs : List (FR × Nat)}

theorem DVq.same (h : DVq σ d n0 A o qs) {σ' : St} (h1 : σ'.af = σ.af) (h2 : σ'.ai = σ.ai) : DVq σ' d n0 A o qs := by
  obtain ⟨a1, a2, a3, a4, a5, a6, a7, a8, a9⟩ := h
  exact ⟨by rw [h1]; exact a1, a2, a3, a4, a5, a6, a7, by rw [h2]; exact a8, by rw [h2]; exact a9⟩

theorem DVq.names (h : DVq σ d n0 A o qs) (hs : qf A.2.1) : (qs.map (fun q => q.1.1)).Nodup := by
  have h1 : (A.2.1.map (·.1)).Nodup := by
    have : (A.2.1.map (·.1)).Pairwise (· < ·) := List.pairwise_map.2 hs
    exact this.imp (fun h => lne h)
  have h2 := (h.files.map (·.1)).nodup_iff.2 h1
  rw [List.map_map] at h2
  exact h2

theorem DVq.keys (h : DVq σ d n0 A o qs) (hs : qf A.2.1) : Keys o.2.1 := by
  unfold Keys
  refine (h.map.map (·.1)).nodup_iff.2 ?_
  rw [List.map_map]
  exact h.names hs

theorem DVq.len (h : DVq σ d n0 A o qs) : o.2.1.length = A.2.1.length := by
  have h1 := h.map.length_eq
  have h2 := h.files.length_eq
  simp only [List.length_map] at h1 h2
  omega

theorem DVq.look (h : DVq σ d n0 A o qs) (hs : qf A.2.1) (s : List UInt8) :
    (jE s A.2.1 = none ∧ bZ .str (.ptr au) s o.2.1 = none ∧ ∀ q ∈ qs, q.1.1 ≠ s) ∨ ∃ f j, jE s A.2.1 = some f ∧ bZ .str (.ptr au) s o.2.1 = some (some j) ∧ (f, j) ∈ qs ∧ f.1 = s ∧ σ.ai[j]? = some (cont f) := by
  cases hf : jE s A.2.1 with
  | none =>
    have hq : ∀ q ∈ qs, q.1.1 ≠ s := fun q hq => JU hf q.1 (h.files.mem_iff.1 (List.mem_map.2 ⟨q, hq, rfl⟩))
    refine .inl ⟨rfl, Wj (fun q hq2 => ?_), hq⟩
    obtain ⟨p, hp, rfl⟩ := List.mem_map.1 (h.map.mem_iff.1 hq2)
    exact hq p hp
  | some f =>
    obtain ⟨h1, h2⟩ := qO hf
    obtain ⟨q, hq, rfl⟩ := List.mem_map.1 (h.files.mem_iff.2 h1)
    refine .inr ⟨q.1, q.2, rfl, TK (h.keys hs) ?_, hq, h2, (h.lie q hq).1⟩
    refine h.map.mem_iff.2 (List.mem_map.2 ⟨q, hq, ?_⟩)
    unfold entry; rw [h2]

theorem rest_none {s : List UInt8} (h : ∀ q ∈ qs, q.1.1 ≠ s) : rest s qs = qs := by
  unfold rest; rw [List.filter_eq_self]; intro q hq; simpa using h q hq

theorem WB {f : FR} {j : Nat} (hn : (qs.map (fun q => q.1.1)).Nodup) (hq : (f, j) ∈ qs) : qs.Perm ((f, j) :: rest f.1 qs) := by
  induction qs with
  | nil => simp at hq
  | cons p r ih =>
    rw [List.map_cons, List.nodup_cons] at hn
    rcases List.mem_cons.1 hq with rfl | hq
    · have : rest f.1 ((f, j) :: r) = r := by
        unfold rest
        rw [List.filter_cons_of_neg (by simp)]
        exact rest_none (fun q hq e => hn.1 (by rw [← e]; exact List.mem_map.2 ⟨q, hq, rfl⟩))
      rw [this]
    · have : rest f.1 (p :: r) = p :: rest f.1 r := by
        unfold rest
        rw [List.filter_cons_of_pos]
        have : p.1.1 ≠ f.1 := fun e => hn.1 (by rw [e]; exact List.mem_map.2 ⟨(f, j), hq, rfl⟩)
        simpa using this
      rw [this]
      exact (List.Perm.cons _ (ih hn.2 hq)).trans (List.Perm.swap _ _ _)

theorem Y8 (s : List UInt8) : (rest s qs).map entry = others s (qs.map entry) := by
  unfold rest others
  rw [List.filter_map]
  rfl

theorem Rk (s : List UInt8) : (rest s qs).map (·.1) = jU s (qs.map (·.1)) := by
  unfold rest
  rw [mW, List.filter_map]
  rfl

theorem xO {s : List UInt8} {L L' : List FR} (h : L.Perm L') : (jU s L).Perm (jU s L') := by
  rw [mW, mW]; exact h.filter _

theorem KF {s : List UInt8} {q : FR × Nat} : q ∈ rest s qs ↔ q ∈ qs ∧ q.1.1 ≠ s := by
  unfold rest; rw [List.mem_filter]; simp

theorem DVq.perm (h : DVq σ d n0 A o qs) {L : List FR} (hL : A.2.1.Perm L) : DVq σ d n0 (pG A L) o qs := by
  obtain ⟨a1, a2, a3, a4, a5, a6, a7, a8, a9⟩ := h
  exact ⟨a1, a2, a3, a4, a5, a6.trans hL, a7, a8, a9⟩

theorem Ql {g : FR} {L L' : List FR} (h : L.Perm (jU g.1 L')) : (g :: L).Perm (lW g false L') :=
  (List.Perm.cons g h).trans (nz g L').symm

theorem DVq.upd (h : DVq σ d n0 A o qs) (hs : qf A.2.1) {f g : FR} {j : Nat} (hq : (f, j) ∈ qs) (hg : g.1 = f.1) :
    DVq (σ.aG j (cont g)) d n0 (pG A (lW g false A.2.1)) o ((g, j) :: rest f.1 qs) := by
  have hp := WB (h.names hs) hq
  have hj := (h.lie _ hq).1
  have hnd : (j :: (rest f.1 qs).map (fun q => q.2)).Nodup := (hp.map (fun q : FR × Nat => q.2)).nodup_iff.1 h.nodup
  refine ⟨h.ho, h.room, h.armed, h.down, ?_, ?_, hnd, ?_, ?_⟩
  · refine h.map.trans ((hp.map entry).trans ?_)
    rw [List.map_cons, List.map_cons]
    have : entry (g, j) = entry (f, j) := by unfold entry; rw [hg]
    rw [this]
  · rw [List.map_cons, Rk, ← hg]
    exact Ql (xO h.files)
  · intro q hq2
    rcases List.mem_cons.1 hq2 with rfl | hq2
    · exact ⟨qU hj, (h.lie _ hq).2⟩
    · have hne : j ≠ q.2 := fun e => (List.nodup_cons.1 hnd).1 (by rw [e]; exact List.mem_map.2 ⟨q, hq2, rfl⟩)
      obtain ⟨e1, e2⟩ := h.lie q (KF.1 hq2).1
      refine ⟨?_, e2⟩
      simp only [St.aG]
      rw [List.getElem?_set_ne hne]; exact e1
  · simpa [St.aG] using h.base

theorem Bh {j : Nat} {x : az eH} (hj : n0 ≤ j) : FrD σ (σ.aG j x) d n0 := by
  refine ⟨rfl, rfl, fun _ _ _ => rfl, Nat.le_refl _, fun i hi => ?_, by simp [St.aG]⟩
  simp only [St.aG]
  rw [List.getElem?_set_ne (by omega)]

theorem EW {x : az dM} : FrD σ (σ.aQ d x) d n0 := by
  refine ⟨rfl, rfl, fun i hi _ => ?_, by simp [St.aQ], fun _ _ => rfl, Nat.le_refl _⟩
  simp only [St.aQ]
  rw [List.getElem?_set_ne (Ne.symm hi)]

theorem O7 {x : az eH} (hb : n0 ≤ σ.ai.length) : FrD σ (σ.dZ x) d n0 := by
  refine ⟨rfl, rfl, fun _ _ _ => rfl, Nat.le_refl _, fun j hj => ?_, by simp [St.dZ]⟩
  simp only [St.dZ]
  rw [List.getElem?_append_left (by omega)]

theorem DVq.link (h : DVq σ d n0 A o qs) (hs : qf A.2.1) {g : FR} {j : Nat} (hj : j ∉ qs.map (·.2)) (hc : σ.ai[j]? = some (cont g)) (hb : n0 ≤ j) :
    DVq (σ.aQ d (o.1, nJ .str (.ptr au) g.1 (some j) o.2.1, o.2.2.1, o.2.2.2.1, ())) d n0 (pG A (lW g false A.2.1)) (o.1, nJ .str (.ptr au) g.1 (some j) o.2.1, o.2.2.1, o.2.2.2.1, ()) ((g, j) :: rest g.1 qs) := by
  refine ⟨mP h.ho, h.room, h.armed, h.down, ?_, ?_, ?_, ?_, h.base⟩
  · refine (QY (h.keys hs) (some j)).trans ?_
    rw [List.map_cons, Y8]
    exact List.Perm.cons _ (h.map.filter _)
  · rw [List.map_cons, Rk]
    exact Ql (xO h.files)
  · rw [List.map_cons, List.nodup_cons]
    refine ⟨fun hm => hj ?_, (List.filter_sublist.map _).nodup h.nodup⟩
    obtain ⟨q, hq, e⟩ := List.mem_map.1 hm
    exact List.mem_map.2 ⟨q, (KF.1 hq).1, e⟩
  · intro q hq
    rcases List.mem_cons.1 hq with rfl | hq
    · exact ⟨hc, hb⟩
    · exact h.lie q (KF.1 hq).1

theorem DVq.state (h : DVq σ d n0 A o qs) {a : Int} {b : Bool} : DVq (σ.aQ d (o.1, o.2.1, a, b, ())) d n0 (A.1, A.2.1, a, b, ()) (o.1, o.2.1, a, b, ()) qs :=
  ⟨mP h.ho, h.room, rfl, rfl, h.map, h.files, h.nodup, h.lie, h.base⟩

theorem Gg : ∀ {qs : List (FR × Nat)}, (∀ q ∈ qs, σ.ai[q.2]? = some (cont q.1)) → Ae (qs.map entry) σ = some (iL (qs.map (·.1)))
  | [], _ => rfl
  | q :: r, h => by
    refine mQ.2 ⟨q.2, cont q.1, iL (r.map (·.1)), rfl, h q List.mem_cons_self, Gg (fun p hp => h p (List.mem_cons_of_mem _ hp)), ?_⟩
    simp [iL, gV, cont]

theorem X7 (h : DVq σ d n0 A o qs) (hA : OkA A) : fG (some d) σ = some ((iL A.2.1 : Nat) : Int) := by
  unfold fG
  have h1 := Gg (σ := σ) (qs := qs) (fun q hq => (h.lie q hq).1)
  have h2 := Eu h.map.symm h1
  rw [uA h.files] at h2
  have h3 := hA.used; have h4 := hA.room
  simp [h.ho, h2]
  rw [aO (by omega) (by omega)]

theorem WG {l l' : List (List UInt8)} (h : l.Perm l') (hs : l'.Pairwise (· < ·)) : sorted l = l' := by
  unfold sorted
  have hp := (List.mergeSort_perm l (fun x y => decide (x ≤ y))).trans h
  refine hp.eq_of_pairwise (le := fun x y => x ≤ y) ?_ ?_ ?_
  · intro a b _ _ h1 h2; exact List.le_antisymm h1 h2
  · have := List.pairwise_mergeSort (le := fun x y : List UInt8 => decide (x ≤ y)) (fun a b c h1 h2 => by simp only [decide_eq_true_eq] at *; exact List.le_trans h1 h2) (fun a b => by simp only [Bool.or_eq_true, decide_eq_true_eq]; exact List.le_total a b) l
    exact this.imp (fun h => by simpa using h)
  · exact hs.imp (fun h => List.le_of_lt h)

theorem X8 (h : DVq σ d n0 A o qs) (hA : OkA A) : gQ (some d) σ = some (A.2.1.map (·.1)) := by
  unfold gQ
  have hl := h.len
  have hf := hA.files
  have hp : (o.2.1.map (·.1)).Perm (A.2.1.map (·.1)) := by
    refine (h.map.map (·.1)).trans ?_
    rw [List.map_map]
    have := h.files.map (·.1)
    rw [List.map_map] at this
    exact this
  have hs := WG hp (List.pairwise_map.2 hA.sorted)
  have hg : (o.2.1.length + 1) * 16 ≤ 140737488355328 := by omega
  simp [h.ho, hs, hg]

theorem Yf (h : DVq σ d n0 A o qs) : f70 (some d) σ = some (if A.2.2.2.1 = true then 11 else 0) := by
  unfold f70
  have := h.down
  simp only [h.ho, Option.isNone_some, Option.bind_eq_bind, Option.bind_some, this]
  rw [if_neg (by decide)]
  split <;> rfl

theorem Gz (h : DVq σ d n0 A o qs) (hA : OkA A) (s : List UInt8) :
    (A.2.2.2.1 = true ∧ f77 (some d) s σ = some (none, 11)) ∨ (A.2.2.2.1 = false ∧ ((jE s A.2.1 = none ∧ f77 (some d) s σ = some (none, 8)) ∨ ∃ f j, jE s A.2.1 = some f ∧ (f, j) ∈ qs ∧ f.1 = s ∧ σ.ai[j]? = some (cont f) ∧ bZ .str (.ptr au) s o.2.1 = some (some j) ∧ f77 (some d) s σ = some (some j, 0))) := by
  unfold f77
  rw [Yf h]
  simp only [h.ho, Option.bind_eq_bind, Option.bind_some]
  cases hd : A.2.2.2.1 with
  | true => exact .inl ⟨rfl, by simp⟩
  | false =>
    refine .inr ⟨rfl, ?_⟩
    rcases h.look hA.sorted s with ⟨h1, h2, _⟩ | ⟨f, j, h1, h2, h3, h4, h5⟩
    · exact .inl ⟨h1, by simp [h2, fB]⟩
    · exact .inr ⟨f, j, h1, h3, h4, h5, h2, by simp [h2]⟩

theorem abu (h : DVq σ d n0 A o qs) (hA : OkA A) (s : List UInt8) : f28 (some d) s σ = some (readA A s) := by
  unfold f28 readA
  rcases Gz h hA s with ⟨h1, h2⟩ | ⟨h1, ⟨h2, h3⟩ | ⟨f, j, h2, h3, h4, h5, _, h6⟩⟩
  · simp [h1, h2]
  · simp [h1, h2, h3]
  · simp [h1, h2, h6, h5, cont]

theorem abw (h : DVq σ d n0 A o qs) : f31 (some d) σ = some A.2.2.2.1 := by
  unfold f31
  simp [h.ho, h.down]
end
end Go.Proofs.YtbnmhjobnepajaaGreat.M


namespace Go.Proofs.YtbnmhjobnepajaaGreat.M

noncomputable def Oth (σ σ1 : St) : Prop := σ1.ai = σ.ai ∧ σ1.aF = σ.aF ∧ σ1.gJ = σ.gJ ∧ σ1.qV = σ.qV ∧ σ1.kW = σ.kW

section
variable {σ : St} {d n0 : Nat} {A : AD} {o : az dM} {qs : List (FR × Nat)}

theorem Le {X Y : az dM} : (σ.aQ d X).aQ d Y = σ.aQ d Y := by unfold St.aQ; simp
theorem Lh {j : Nat} {X Y : az eH} : (σ.aG j X).aG j Y = σ.aG j Y := by unfold St.aG; simp

theorem FrD.of {σ' : St} (h1 : σ'.up = σ.up) (h2 : σ'.af = σ.af) (h3 : σ'.ai = σ.ai) (h4 : tV σ' = tV σ := by rfl) : FrD σ σ' d n0 :=
  ⟨h4, h1, fun i _ _ => by rw [h2], by rw [h2]; exact Nat.le_refl _, fun i _ => by rw [h3], by rw [h3]; exact Nat.le_refl _⟩

theorem DV.same {σ' : St} (h : DV σ d n0 A) (h1 : σ'.af = σ.af) (h2 : σ'.ai = σ.ai) : DV σ' d n0 A := by
  obtain ⟨o, qs, h⟩ := h
  exact ⟨o, qs, h.same h1 h2⟩

noncomputable def Gives (r : Option (Int × St)) (σ : St) (d n0 : Nat) (p : Int × AD) : Prop := ∃ σ', r = some (p.1, σ') ∧ DV σ' d n0 p.2 ∧ FrD σ σ' d n0

theorem Gives.from {r : Option (Int × St)} {σ0 : St} {p : Int × AD} (h : Gives r σ d n0 p) (hf : FrD σ0 σ d n0) : Gives r σ0 d n0 p := by
  obtain ⟨σ', e1, e2, e3⟩ := h
  exact ⟨σ', e1, e2, hf.trans e3⟩

theorem OY (h : DVq σ d n0 A o qs) (hA : OkA A) (hd : A.2.2.2.1 = false) {p1 : St → Option (Unit × St)} {k : AD → AD}
    (hp : ∀ σ1 o1, DVq σ1 d n0 (uM A).2 o1 qs → o1.2.1 = o.2.1 → Oth σ σ1 → ∃ σ2, p1 σ1 = some ((), σ2) ∧ DV σ2 d n0 (k (uM A).2) ∧ FrD σ1 σ2 d n0) :
    Gives (f72 (some d) p1 σ) σ d n0 (vF A k) := by
  unfold f72 vF
  simp only [h.ho, Option.bind_eq_bind, Option.bind_some, h.armed]
  by_cases h0 : A.2.2.1 = 0
  · have hg : uM A = (false, A) := by unfold uM; rw [if_pos h0]
    rw [hg] at hp ⊢
    obtain ⟨σ2, e1, e2, e3⟩ := hp σ o h rfl ⟨rfl, rfl, rfl, rfl, rfl⟩
    exact ⟨σ2, by simp [h0, e1], e2, e3⟩
  · have ha := hA.armed
    have hw : IntKind.wrap .i64 (A.2.2.1 - 1) = A.2.2.1 - 1 := aO (by omega) (by omega)
    have hg : uM A = (A.2.2.1 == 1, (A.1, A.2.1, A.2.2.1 - 1, A.2.2.1 == 1, ())) := by unfold uM; rw [if_neg h0]
    have hpos : decide (A.2.2.1 > 0) = true := by simp; omega
    rw [hg] at hp ⊢
    simp only [hpos, if_true, hw, mP h.ho, Option.bind_some, Le]
    by_cases h1 : A.2.2.1 = 1
    · refine ⟨_, by simp [h1]; rfl, ?_, EW⟩
      have := h.state (a := A.2.2.1 - 1) (b := true)
      rw [h1] at this ⊢
      exact ⟨_, _, this⟩
    · have e : ((A.2.2.1 - 1 == 0) : Bool) = false := by
        have : ¬ (A.2.2.1 - 1 = 0) := by omega
        simpa using this
      have e2 : ((A.2.2.1 == 1) : Bool) = false := by simpa using h1
      rw [e2] at hp
      have hq := h.state (a := A.2.2.1 - 1) (b := o.2.2.2.1)
      have hdn : o.2.2.2.1 = false := h.down.trans hd
      rw [hdn] at hq
      obtain ⟨σ2, e3, e4, e5⟩ := hp _ _ hq rfl ⟨rfl, rfl, rfl, rfl, rfl⟩
      refine ⟨σ2, ?_, ?_, EW.trans e5⟩
      · rw [hdn]; simp [e, e2, e3]
      · simp only [e2]; exact e4

theorem abx (h : DV σ d n0 A) (hA : OkA A) (s : List UInt8) : Gives (f33 (some d) s σ) σ d n0 (Lt A s) := by
  obtain ⟨o, qs, h⟩ := h
  unfold f33 Lt NZ
  rcases Gz h hA s with ⟨h1, h2⟩ | ⟨h1, ⟨h2, h3⟩ | ⟨f, j, h2, h3, h4, h5, _, h6⟩⟩
  · rw [h2, if_pos h1]
    exact ⟨(σ.dW (none, ())).dC σ.aF.length (none, ()), by simp, ⟨o, qs, h.same rfl rfl⟩, FrD.of rfl rfl rfl⟩
  · rw [h3, if_neg (by rw [h1]; decide), h2]
    exact ⟨(σ.dW (none, ())).dC σ.aF.length (none, ()), by simp, ⟨o, qs, h.same rfl rfl⟩, FrD.of rfl rfl rfl⟩
  · rw [h6, if_neg (by rw [h1]; decide), h2]
    simp only [Option.bind_eq_bind, Option.bind_some]
    rw [if_neg (by decide)]
    have hh : DVq ((σ.dW (none, ())).dC σ.aF.length (some j, ())) d n0 A o qs := h.same rfl rfl
    have hc : ((σ.dW (none, ())).dC σ.aF.length (some j, ())).aF[σ.aF.length]? = some (some j, ()) := BU Nw
    refine Gives.from ?_ (FrD.of (σ' := (σ.dW (none, ())).dC σ.aF.length (some j, ())) rfl rfl rfl)
    obtain ⟨σ', e1, e2, e3⟩ := OY hh hA h1 (p1 := f78 σ.aF.length) (k := fun B => pG B (lW (BQ s f) false B.2.1)) (by
      intro σ1 o1 q1 q2 q3
      have hj := (q1.lie _ h3).1
      have hc1 : σ1.aF[σ.aF.length]? = some (some j, ()) := by rw [q3.2.1]; exact hc
      refine ⟨σ1.aG j (cont (BQ s f)), ?_, ⟨_, _, q1.upd hA.goes.sorted h3 h4.symm⟩, Bh (q1.lie _ h3).2⟩
      unfold f78
      simp [hc1, hj, cont, BQ])
    exact ⟨σ', by rw [e1]; rfl, e2, e3⟩

theorem abz (h : DV σ d n0 A) (hA : OkA A) (s : List UInt8) (n : Int) : Gives (f35 (some d) s n σ) σ d n0 (PV A s n) := by
  obtain ⟨o, qs, h⟩ := h
  unfold f35 PV NZ
  have h' : DVq (σ.bU (n, ())) d n0 A o qs := h.same rfl rfl
  rcases Gz h' hA s with ⟨h1, h2⟩ | ⟨h1, ⟨h2, h3⟩ | ⟨f, j, h2, h3, h4, h5, _, h6⟩⟩
  · rw [h2, if_pos h1]
    exact ⟨((σ.bU (n, ())).dW (none, ())).dC (σ.bU (n, ())).aF.length (none, ()), by simp, ⟨o, qs, h.same rfl rfl⟩, FrD.of rfl rfl rfl⟩
  · rw [h3, if_neg (by rw [h1]; decide), h2]
    exact ⟨((σ.bU (n, ())).dW (none, ())).dC (σ.bU (n, ())).aF.length (none, ()), by simp, ⟨o, qs, h.same rfl rfl⟩, FrD.of rfl rfl rfl⟩
  · rw [h6, if_neg (by rw [h1]; decide), h2]
    simp only [Option.bind_eq_bind, Option.bind_some]
    rw [if_neg (by decide)]
    have hfs := hA.each f (qO h2).1
    by_cases c1 : n < 0
    · rw [if_pos (by simpa using c1), if_pos (.inl c1)]
      exact ⟨_, rfl, ⟨o, qs, h.same rfl rfl⟩, FrD.of rfl rfl rfl⟩
    rw [if_neg (by simpa using c1)]
    have hl : (((σ.bU (n, ())).dW (none, ())).dC ((σ.bU (n, ())).aF.length) (some j, ())).ai[j]? = some (cont f) := h5
    rw [hl]
    simp only [Option.bind_some]
    have hcl : (cont f).1.length = gV f := by simp [cont, gV]
    by_cases c2 : (gV f : Int) < n
    · rw [if_pos (by rw [hcl]; simpa using c2), if_pos (.inr c2)]
      exact ⟨_, rfl, ⟨o, qs, h.same rfl rfl⟩, FrD.of rfl rfl rfl⟩
    rw [if_neg (by rw [hcl]; simpa using c2), if_neg (by simp only [not_or]; exact ⟨c1, c2⟩)]
    have hh : DVq (((σ.bU (n, ())).dW (none, ())).dC ((σ.bU (n, ())).aF.length) (some j, ())) d n0 A o qs := h.same rfl rfl
    have hc : (((σ.bU (n, ())).dW (none, ())).dC ((σ.bU (n, ())).aF.length) (some j, ())).aF[(σ.bU (n, ())).aF.length]? = some (some j, ()) := BU Nw
    have hc3 : (((σ.bU (n, ())).dW (none, ())).dC ((σ.bU (n, ())).aF.length) (some j, ())).gJ[σ.gJ.length]? = some (n, ()) := by
      show (σ.bU (n, ())).gJ[σ.gJ.length]? = _
      exact Yu
    refine Gives.from ?_ (FrD.of (σ' := ((σ.bU (n, ())).dW (none, ())).dC ((σ.bU (n, ())).aF.length) (some j, ())) rfl rfl rfl)
    obtain ⟨σ', e1, e2, e3⟩ := OY hh hA h1 (p1 := f79 ((σ.bU (n, ())).aF.length) σ.gJ.length) (k := fun B => pG B (lW (Gu s f n.toNat) false B.2.1)) (by
      intro σ1 o1 q1 q2 q3
      have hj := (q1.lie _ h3).1
      have hc1 : σ1.aF[(σ.bU (n, ())).aF.length]? = some (some j, ()) := by rw [q3.2.1]; exact hc
      have hc2 : σ1.gJ[σ.gJ.length]? = some (n, ()) := by rw [q3.2.2.1]; exact hc3
      have hn1 : (Gu s f n.toNat).1 = f.1 := by rw [h4]; unfold Gu; split <;> rfl
      refine ⟨σ1.aG j (cont (Gu s f n.toNat)), ?_, ⟨_, _, q1.upd hA.goes.sorted h3 hn1⟩, Bh (q1.lie _ h3).2⟩
      unfold f79
      have hg : (0 : Int) ≤ n ∧ n ≤ ((cont f).1.length : Int) := by rw [hcl]; omega
      simp only [hc1, hc2, hj, Option.bind_eq_bind, Option.bind_some, hg, and_self, if_true, qU hj, Lh]
      have : ((f.2.1 ++ f.2.2.1).take n.toNat, (if n < (f.2.1.length : Int) then n else (f.2.1.length : Int)), ()) = cont (Gu s f n.toNat) := by
        unfold Gu cont
        by_cases c3 : n.toNat ≤ f.2.1.length
        · rw [if_pos c3]
          simp only [List.append_nil, List.length_take]
          rw [List.take_append_of_le_length c3]
          congr 2
          split <;> omega
        · rw [if_neg c3]
          simp only []
          rw [List.take_append, List.take_of_length_le (l := f.2.1) (by omega)]
          congr 2
          rw [if_neg (by omega)]
      exact congrArg (fun X => some ((), σ1.aG j X)) this)
    exact ⟨σ', by rw [e1]; rfl, e2, e3⟩

theorem Yh {B : AD} : ∀ σ1 o1, DVq σ1 d n0 B o1 qs → o1.2.1 = o.2.1 → Oth σ σ1 → ∃ σ2, f73 σ1 = some ((), σ2) ∧ DV σ2 d n0 (id B) ∧ FrD σ1 σ2 d n0 :=
  fun σ1 o1 q1 _ _ => ⟨σ1, rfl, ⟨_, _, q1⟩, FrD.refl _ _ _⟩

theorem X9 (h : DV σ d n0 A) (hA : OkA A) (s b : List UInt8) (hs : s.length < 9223372036854775808) : Gives (f24 (some d) s b σ) σ d n0 (uB A s b) := by
  obtain ⟨o, qs, h⟩ := h
  unfold f24 uB
  rw [Yf h]
  simp only [Option.bind_eq_bind, Option.bind_some, abE s hs, h.ho]
  cases hd : A.2.2.2.1 with
  | true => exact ⟨_, by simp, ⟨o, qs, h⟩, FrD.refl _ _ _⟩
  | false =>
    simp only [Bool.false_eq_true, if_false]
    rw [if_neg (by decide)]
    cases hn : G6 s with
    | false => exact ⟨_, by simp, ⟨o, qs, h⟩, FrD.refl _ _ _⟩
    | true =>
      simp only [Bool.not_true, Bool.false_eq_true, if_false, Bool.true_eq_false]
      have hdB : ∀ L, (pG A L).2.2.2.1 = false := fun L => hd
      have hlen := h.len
      rcases h.look hA.sorted s with ⟨h1, h2, h3⟩ | ⟨f, j, h1, h2, h3, h4, h5⟩
      · simp only [h2, Option.getD_none, fB, Option.isNone_none, Bool.not_true, Bool.false_eq_true, if_false, if_true, Option.bind_some, X7 h hA, h.room, Vp hA, decide_eq_true_eq]
        have hw : IntKind.wrap .i64 (65536 - 0) = 65536 := by decide
        rw [hw, hlen]
        have hsz : gV (lI s) = 0 := rfl
        by_cases c1 : (A.2.1.length : Int) ≥ 128
        · rw [if_pos c1, if_pos (.inl ⟨by rw [h1]; rfl, by omega⟩)]
          exact ⟨_, rfl, ⟨o, qs, h⟩, FrD.refl _ _ _⟩
        rw [if_neg c1]
        by_cases c2 : (b.length : Int) > 65536
        · rw [if_pos c2, if_pos (.inr (.inl (by rw [h1]; simp only [Option.getD_none, hsz]; omega)))]
          exact ⟨_, rfl, ⟨o, qs, h⟩, FrD.refl _ _ _⟩
        rw [if_neg c2]
        by_cases c3 : (b.length : Int) > A.1 - ((iL A.2.1 : Nat) : Int)
        · rw [if_pos c3, if_pos (.inr (.inr (by omega)))]
          exact ⟨_, rfl, ⟨o, qs, h⟩, FrD.refl _ _ _⟩
        rw [if_neg c3]
        have hc : ¬ full A s b := by
          simp only [full, h1, Option.getD_none, hsz, not_or, not_and]
          exact ⟨fun _ => by omega, by omega, by omega⟩
        rw [if_neg hc]
        have hB := hA.appended hc
        rw [h1] at hB ⊢
        have e0 : (σ.dZ ([], 0, ())).af[d]? = some o := h.ho
        rw [e0]
        simp only [Option.bind_some]
        have q0 : DVq (σ.dZ ([], 0, ())) d n0 A o qs := by
          refine ⟨h.ho, h.room, h.armed, h.down, h.map, h.files, h.nodup, fun q hq => ?_, by have := h.base; simp [St.dZ]; omega⟩
          obtain ⟨a1, a2⟩ := h.lie q hq
          refine ⟨?_, a2⟩
          simp only [St.dZ]
          rw [List.getElem?_append_left (List.getElem?_eq_some_iff.1 a1).1]; exact a1
        have hnew : σ.ai.length ∉ qs.map (·.2) := fun hm => by
          obtain ⟨q, hq, e⟩ := List.mem_map.1 hm
          have := (List.getElem?_eq_some_iff.1 (h.lie q hq).1).1
          omega
        have q1 := q0.link (g := lI s) (j := σ.ai.length) hA.sorted hnew DF h.base
        have q2 := q1.upd (g := ru (lI s) b) hA.sorted.set List.mem_cons_self rfl
        have q3 := q2.perm (L := lW (ru (lI s) b) false A.2.1) (by
          refine (nz _ _).trans (List.Perm.trans ?_ (nz _ _).symm)
          refine List.Perm.cons _ ?_
          refine (xO (nz _ _)).trans ?_
          have e1 : (ru (lI s) b).1 = s := rfl
          have e2 : (lI s).1 = s := rfl
          rw [e1, e2]
          simp only [jU, e2, beq_self_eq_true, cond_true, List.nil_append]
          rw [zy (L := jU s A.2.1)]
          rw [zy h1]; exact h1)
        have g1 : ((σ.dZ ([], 0, ())).aQ d (o.1, nJ .str (.ptr au) s (some σ.ai.length) o.2.1, o.2.2.1, o.2.2.2.1, ())).ai[σ.ai.length]? = some ([], 0, ()) := DF
        rw [g1]
        simp only [Option.bind_some]
        have hl : ([] : List UInt8).length + b.length ≤ 9223372036854775807 := by simp; omega
        rw [if_pos hl]
        have hB' : OkA (pG (pG A (lW (lI s) false A.2.1)) (lW (ru (lI s) b) false A.2.1)) := hB
        obtain ⟨σ', e1, e2, e3⟩ := OY (k := id) q3 hB' (hdB _) Yh
        refine ⟨σ', ?_, e2, ((O7 h.base).trans (EW.trans (Bh h.base))).trans e3⟩
        have e4 : (([] : List UInt8) ++ b, (0 : Int), ()) = cont (ru (lI s) b) := rfl
        rw [e4]
        have e5 : (lI s).1 = s := rfl
        rw [e5] at e1
        rw [e1]; rfl
      · have hfs := hA.each f (qO h1).1
        have hcl : (cont f).1.length = gV f := by simp [cont, gV]
        simp only [h2, Option.getD_some, Option.isNone_some, Bool.not_false, Bool.false_eq_true, if_false, if_true, Option.bind_some, X7 h hA, h.room, Vp hA, decide_eq_true_eq, h5, hcl]
        have hw : IntKind.wrap .i64 (65536 - (gV f : Int)) = 65536 - (gV f : Int) := aO (by omega) (by omega)
        rw [hw]
        by_cases c2 : (b.length : Int) > 65536 - (gV f : Int)
        · rw [if_pos c2, if_pos (.inr (.inl (by rw [h1]; simp only [Option.getD_some]; omega)))]
          exact ⟨_, rfl, ⟨o, qs, h⟩, FrD.refl _ _ _⟩
        rw [if_neg c2]
        by_cases c3 : (b.length : Int) > A.1 - ((iL A.2.1 : Nat) : Int)
        · rw [if_pos c3, if_pos (.inr (.inr (by omega)))]
          exact ⟨_, rfl, ⟨o, qs, h⟩, FrD.refl _ _ _⟩
        rw [if_neg c3]
        have hc : ¬ full A s b := by
          simp only [full, h1, Option.getD_some, not_or, not_and]
          exact ⟨fun h => by simp at h, by omega, by omega⟩
        rw [if_neg hc]
        have hB := hA.appended hc
        rw [h1] at hB ⊢
        have q2 := h.upd (g := ru f b) hA.sorted h3 rfl
        have hl : gV f + b.length ≤ 9223372036854775807 := by omega
        rw [if_pos hl]
        obtain ⟨σ', e1, e2, e3⟩ := OY (k := id) q2 hB (hdB _) Yh
        refine ⟨σ', ?_, e2, (Bh (h.lie _ h3).2).trans e3⟩
        have e4 : ((cont f).1 ++ b, (cont f).2.1, ()) = cont (ru f b) := by simp [cont, ru]
        rw [e4]
        rw [e1]; rfl

theorem QE (d n0 : Nat) (A0 : AD) : ∀ (suf pre : List FR) (keep : List Int) (σ : St) (A : AD), DV σ d n0 A → A.2.1 = pre ++ suf → qf (pre ++ suf) → pre.length + suf.length ≤ 128 → (∀ f ∈ suf, gV f ≤ 65536) →
    ∃ keep' σ', uh (some d) ((pre ++ suf).map (·.1)) keep ((pre.length : Nat) : Int) σ = some (keep', ((pre.length + suf.length : Nat) : Int), σ') ∧ DV σ' d n0 (pG A (pre ++ jA suf keep)) ∧ FrD σ σ' d n0
  | [], pre, keep, σ, A, h, hL, hs, hl, hf => by
    rw [uh]
    refine ⟨keep, σ, ?_, ?_, FrD.refl _ _ _⟩
    · simp
    · simp only [jA]; rw [← hL]; exact h
  | f :: r, pre, keep, σ, A, h, hL, hs, hl, hf => by
    rw [uh]
    obtain ⟨o, qs, h⟩ := h
    have hsA : qf A.2.1 := by rw [hL]; exact hs
    have hfs := hf f List.mem_cons_self
    have hfd : jE f.1 A.2.1 = some f := ET hsA (by rw [hL]; simp) rfl
    have hlook := h.look hsA f.1
    rw [hfd] at hlook
    rcases hlook with ⟨h1, _⟩ | ⟨f', j, h1, h2, h3, h4, h5⟩
    · cases h1
    simp only [Option.some.injEq] at h1; subst h1
    have hn : pre.length < ((pre ++ f :: r).map (·.1)).length := by simp
    have hix : ix ((pre ++ f :: r).map (·.1)) ((pre.length : Nat) : Int) = some f.1 := by rw [oC hn]; simp
    have hlt : ((pre.length : Nat) : Int) < (((pre ++ f :: r).map (·.1)).length : Int) := by omega
    simp only [List.length_cons] at hl
    have hw : IntKind.wrap .i64 ((pre.length : Int) + 1) = (((pre ++ [f]).length : Nat) : Int) := by rw [aO (by omega) (by omega)]; simp
    have hmore : IntKind.wrap .i64 (((cont f).1.length : Int) - (cont f).2.1) = (f.2.2.1.length : Int) := by
      unfold gV at hfs
      have : ((cont f).1.length : Int) - (cont f).2.1 = (f.2.2.1.length : Int) := by simp [cont]; omega
      rw [this, aO (by omega) (by omega)]
    have happ : (pre ++ [f]) ++ r = pre ++ f :: r := by simp
    simp only [hlt, decide_true, if_true, hix, Option.bind_eq_bind, Option.bind_some, h.ho, h2, Option.getD_some, h5, hmore, hw]
    have next : ∀ (g : FR) (keep2 : List Int) (σ2 : St), g.1 = f.1 → DV σ2 d n0 (pG A (pre ++ g :: r)) → FrD σ σ2 d n0 →
        ∃ keep' σ', uh (some d) ((pre ++ f :: r).map (·.1)) keep2 (((pre ++ [f]).length : Nat) : Int) σ2 = some (keep', ((pre.length + (f :: r).length : Nat) : Int), σ') ∧ DV σ' d n0 (pG A (pre ++ g :: jA r keep2)) ∧ FrD σ σ' d n0 := by
      intro g keep2 σ2 hg hv hfr
      have hnm : (pre ++ f :: r).map (·.1) = ((pre ++ [g]) ++ r).map (·.1) := by simp [hg]
      obtain ⟨k', σ', e1, e2, e3⟩ := QE d n0 A0 r (pre ++ [g]) keep2 σ2 (pG A (pre ++ g :: r)) hv (by simp [pG]) (Hw hnm hs) (by simp; omega) (fun x hx => hf x (List.mem_cons_of_mem _ hx))
      refine ⟨k', σ', ?_, ?_, hfr.trans e3⟩
      · rw [hnm]
        have hpl : (pre ++ [f]).length = (pre ++ [g]).length := by simp
        rw [hpl, e1]
        simp only [List.length_append, List.length_cons, List.length_nil]
        congr 3
        omega
      · have : (pre ++ [g]) ++ jA r keep2 = pre ++ g :: jA r keep2 := by simp
        rw [this] at e2; exact e2
    simp only [jA]
    cases hm : f.2.2.1 with
    | nil =>
      have e : ((f.1, f.2.1, [], ()) : FR) = f := by rw [← hm]
      have h0 : (((([] : List UInt8).length : Int) == 0) : Bool) = true := rfl
      rw [if_pos h0]
      simp only [List.isEmpty_nil, cond_true, e]
      refine next f keep σ rfl ?_ (FrD.refl _ _ _)
      rw [← hL]; exact ⟨o, qs, h⟩
    | cons c t =>
      have h0 : ((((c :: t : List UInt8).length : Int) == 0) : Bool) = false := by
        have : ¬ (((c :: t : List UInt8).length : Int) = 0) := by simp only [List.length_cons]; omega
        simpa using this
      have hkl := Yx keep (c :: t).length
      have hfs' := hfs
      unfold gV at hfs'
      rw [hm] at hfs'
      have hw1 : IntKind.wrap .i64 (((c :: t : List UInt8).length : Int) + 1) = ((c :: t : List UInt8).length : Int) + 1 := aO (by omega) (by omega)
      rw [h0]
      simp only [Bool.false_eq_true, if_false, List.isEmpty_cons, cond_false, hw1]
      have hz : ((if decide ((keep.length : Int) > 0) = true then
          (ix keep 0).bind fun x49 => if ((c :: t : List UInt8).length : Int) + 1 ≠ 0 then if (0 : Int) ≤ 1 ∧ 1 ≤ (keep.length : Int) then some (keep.drop (Int.toNat 1), Int.tmod (if 0 > x49 then 0 else x49) (((c :: t : List UInt8).length : Int) + 1)) else none else none
          else some (keep, 0)) : Option (List Int × Int)) = some (keep.tail, ((pM keep (c :: t).length : Nat) : Int)) := by
        cases keep with
        | nil => simp [pM]
        | cons y r' =>
          have hne : ((c :: t : List UInt8).length : Int) + 1 ≠ 0 := by omega
          have hgt : ((y :: r').length : Int) > 0 := by simp only [List.length_cons]; omega
          have hle : (0 : Int) ≤ 1 ∧ 1 ≤ ((y :: r').length : Int) := ⟨by decide, by simp only [List.length_cons]; omega⟩
          have hix0 : ix (y :: r') 0 = some y := rfl
          rw [if_pos (decide_eq_true hgt), hix0, Option.bind_some, if_pos hne, if_pos hle]
          congr 1
          have : (if 0 > y then (0 : Int) else y).tmod (((c :: t : List UInt8).length : Int) + 1) = ((pM (y :: r') (c :: t).length : Nat) : Int) := by
            simp only [pM]
            by_cases hy : 0 < y
            · rw [if_neg (by omega), if_pos hy]
              have := Int.tmod_nonneg (((c :: t : List UInt8).length : Int) + 1) (Int.le_of_lt hy)
              omega
            · rw [if_neg hy]
              have : (if 0 > y then (0 : Int) else y) = 0 := by split <;> omega
              rw [this]; simp
          rw [this]; rfl
      rw [hz]
      simp only [Option.bind_some]
      have hsafe : (cont f).2.1 = (f.2.1.length : Int) := rfl
      have hb : (cont f).1 = f.2.1 ++ c :: t := by rw [← hm]; rfl
      have hw2 : IntKind.wrap .i64 ((f.2.1.length : Int) + ((pM keep (c :: t).length : Nat) : Int)) = ((f.2.1.length + pM keep (c :: t).length : Nat) : Int) := by rw [aO (by omega) (by omega)]; omega
      rw [hsafe, hw2, hb]
      rw [if_pos ⟨by omega, by simp only [List.length_append]; omega⟩]
      simp only [qU h5, Option.bind_some, Lh, Int.toNat_natCast]
      have hcont : ((f.2.1 ++ c :: t).take (f.2.1.length + pM keep (c :: t).length), ((((f.2.1 ++ c :: t).take (f.2.1.length + pM keep (c :: t).length)).length : Nat) : Int), ()) = cont (f.1, f.2.1 ++ (c :: t).take (pM keep (c :: t).length), [], ()) := by
        have : (f.2.1 ++ c :: t).take (f.2.1.length + pM keep (c :: t).length) = f.2.1 ++ (c :: t).take (pM keep (c :: t).length) := by
          rw [List.take_append, List.take_of_length_le (l := f.2.1) (by omega)]; simp
        simp only [cont, this, List.append_nil]
      rw [hcont]
      refine next (f.1, f.2.1 ++ (c :: t).take (pM keep (c :: t).length), [], ()) keep.tail _ rfl ?_ (Bh (h.lie _ h3).2)
      have q1 := h.upd (g := (f.1, f.2.1 ++ (c :: t).take (pM keep (c :: t).length), [], ())) hsA h3 rfl
      refine ⟨_, _, q1.perm (L := pre ++ (f.1, f.2.1 ++ (c :: t).take (pM keep (c :: t).length), [], ()) :: r) ?_⟩
      refine (nz _ _).trans (List.Perm.trans ?_ List.perm_middle.symm)
      refine List.Perm.cons _ ?_
      have p1 := Ec hsA hfd
      rw [hL] at p1
      have p2 : (f :: (pre ++ r)).Perm (f :: jU f.1 A.2.1) := by
        rw [hL]; exact List.perm_middle.symm.trans p1
      exact (List.Perm.cons_inv p2).symm

theorem abt (h : DV σ d n0 A) (hA : OkA A) (keep : List Int) : Gives (f27 (some d) keep σ) σ d n0 (0, AX A keep) := by
  have hf := hA.files
  obtain ⟨k', σ', e1, e2, e3⟩ := QE d n0 A A.2.1 [] keep σ A h rfl hA.sorted (by simp; exact hf) hA.each
  obtain ⟨o, qs, h⟩ := h
  obtain ⟨o2, qs2, h2⟩ := e2
  unfold f27
  rw [X8 h hA]
  have e1' : uh (some d) (A.2.1.map (·.1)) keep 0 σ = some (k', ((0 + A.2.1.length : Nat) : Int), σ') := e1
  simp only [Option.isNone_some, Option.bind_eq_bind, Option.bind_some, e1', h2.ho, mP h2.ho, Le]
  rw [if_neg (by decide)]
  exact ⟨_, rfl, ⟨_, _, h2.state⟩, e3.trans EW⟩

theorem abr {room : Int} (h1 : 0 ≤ room) (h2 : room ≤ 1048576) : f18 room σ = some ((some σ.af.length, 0), σ.ni (room, [], 0, false, ())) ∧ DV (σ.ni (room, [], 0, false, ())) σ.af.length σ.ai.length (room, [], 0, false, ()) ∧ OkA (room, [], 0, false, ()) := by
  refine ⟨?_, ⟨(room, [], 0, false, ()), [], ?_⟩, ?_⟩
  · unfold f18
    have c1 : ¬ room < 0 := by omega
    have c2 : ¬ room > 1048576 := by omega
    simp [c1, c2]
  · exact ⟨LW, rfl, rfl, rfl, List.Perm.refl _, List.Perm.refl _, List.nodup_nil, by simp, Nat.le_refl _⟩
  · exact ⟨List.Pairwise.nil, Nat.zero_le _, fun f hf => by simp at hf, h1, h2, Int.le_refl 0, (by decide : (0 : Int) < 9223372036854775808)⟩
end
end Go.Proofs.YtbnmhjobnepajaaGreat.M


namespace Go.Proofs.YtbnmhjobnepajaaGreat.M

abbrev Sg : Type := Nat × List (List UInt8)
noncomputable def sgB (g : Sg) : List UInt8 := gB g.1 g.2
noncomputable def sgN (g : Sg) : Nat := g.1 + g.2.length
noncomputable def aJ (segs : List Sg) : Nat := match segs.getLast? with
  | none => 0
  | some g => sgN g

theorem iU (pre : List Sg) (g : Sg) : aJ (pre ++ [g]) = sgN g := by simp [aJ]

noncomputable def Chn : Option Nat → List Sg → Prop
  | _, [] => True
  | e, g :: r => (∀ n, e = some n → g.1 = n) ∧ (r ≠ [] → 0 < g.2.length) ∧ Chn (some (sgN g)) r

theorem Chn.ge : ∀ {r : List Sg} {n : Nat}, Chn (some n) r → ∀ h ∈ r, n ≤ h.1
  | [], _, _ => by simp
  | g :: r, n, h => by
    obtain ⟨h1, h2, h3⟩ := h
    intro x hx
    have := h1 n rfl
    rcases List.mem_cons.1 hx with rfl | hx
    · omega
    · have := h3.ge x hx
      unfold sgN at this; omega

theorem Chn.rise : ∀ {r : List Sg} {e : Option Nat}, Chn e r → r.Pairwise (fun g h => g.1 < h.1)
  | [], _, _ => List.Pairwise.nil
  | g :: r, e, h => by
    obtain ⟨h1, h2, h3⟩ := h
    refine List.pairwise_cons.2 ⟨fun x hx => ?_, h3.rise⟩
    have := h3.ge x hx
    have := h2 (List.ne_nil_of_mem hx)
    unfold sgN at *; omega

theorem Chn.last : ∀ {pre : List Sg} {e : Option Nat} {g h : Sg}, Chn e (pre ++ [g]) → h.1 = g.1 → Chn e (pre ++ [h])
  | [], e, g, h, hc, he => by
    obtain ⟨h1, h2, h3⟩ := hc
    exact ⟨fun n hn => by rw [he]; exact h1 n hn, by simp, trivial⟩
  | a :: pre, e, g, h, hc, he => by
    obtain ⟨h1, h2, h3⟩ := hc
    refine ⟨h1, fun _ => h2 (by simp), ?_⟩
    exact Chn.last (pre := pre) h3 he

theorem Chn.snoc : ∀ {pre : List Sg} {e : Option Nat} {g h : Sg}, Chn e (pre ++ [g]) → h.1 = sgN g → 0 < g.2.length → Chn e (pre ++ [g] ++ [h])
  | [], e, g, h, hc, he, hp => by
    obtain ⟨h1, h2, h3⟩ := hc
    exact ⟨h1, fun _ => hp, fun n hn => by rw [he]; simpa using hn, by simp, trivial⟩
  | a :: pre, e, g, h, hc, he, hp => by
    obtain ⟨h1, h2, h3⟩ := hc
    refine ⟨h1, fun _ => h2 (by simp), ?_⟩
    exact Chn.snoc (pre := pre) h3 he hp

structure Good (segs : List Sg) : Prop where
  chain : Chn none segs
  recs : ∀ g ∈ segs, ∀ x ∈ g.2, OkR x
  top : ∀ g ∈ segs, sgN g ≤ 1000000

theorem Good.len {segs : List Sg} (h : Good segs) {g : Sg} (hg : g ∈ segs) : (sgB g).length ≤ g.2.length * 1048 := by
  have := h.top g hg
  unfold sgN at this
  exact Ru g.1 g.2 (by unfold OkN; omega) (h.recs g hg)

theorem Good.acv {segs : List Sg} (h : Good segs) {g : Sg} (hg : g ∈ segs) : (sgB g).length ≤ 1048000000 := by
  have h1 := h.len hg
  have h2 := h.top g hg
  unfold sgN at h2
  omega

abbrev Lie (σ : St) (j : Nat) (g : Sg) : Prop := σ.ae[j]? = some ((g.1 : Int), g.2, ((sgB g).length : Int), ())

structure LG (σ : St) (l d : Nat) (most : Int) (js : List Nat) (segs : List Sg) (safe : Nat) : Prop where
  lo : σ.aj[l]? = some (some d, nmL, most, js.map some, (safe : Int), ())
  nd : js.Nodup
  lie : cO (Lie σ) js segs

theorem cO.app {α β : Type} {R : α → β → Prop} : ∀ {a : List α} {b : List β} {a' : List α} {b' : List β}, cO R a b → cO R a' b' → cO R (a ++ a') (b ++ b')
  | [], [], _, _, _, h => h
  | _ :: _, _ :: _, _, _, ⟨h1, h2⟩, h => ⟨h1, cO.app h2 h⟩
  | [], _ :: _, _, _, h, _ => h.elim
  | _ :: _, [], _, _, h, _ => h.elim

theorem cO.split {α β : Type} {R : α → β → Prop} : ∀ {a : List α} {b : List β} {y : β}, cO R a (b ++ [y]) → ∃ a' x, a = a' ++ [x] ∧ cO R a' b ∧ R x y
  | [], b, y, h => by cases b <;> exact h.elim
  | x :: a, [], y, h => by
    obtain ⟨h1, h2⟩ := h
    cases a with
    | nil => exact ⟨[], x, rfl, trivial, h1⟩
    | cons _ _ => exact h2.elim
  | x :: a, z :: b, y, h => by
    obtain ⟨h1, h2⟩ := h
    obtain ⟨a', x', e, h3, h4⟩ := cO.split (b := b) h2
    exact ⟨x :: a', x', by rw [e]; rfl, ⟨h1, h3⟩, h4⟩

theorem cO.nth {α β : Type} {R : α → β → Prop} : ∀ {a : List α} {b : List β} (h : cO R a b) (i : Nat) (h1 : i < a.length) (h2 : i < b.length), R a[i] b[i]
  | [], _, _, i, h1, _ => by simp at h1
  | _ :: _, [], h, _, _, _ => h.elim
  | x :: a, y :: b, h, 0, _, _ => h.1
  | x :: a, y :: b, h, i + 1, h1, h2 => cO.nth h.2 i (by simpa using h1) (by simpa using h2)

theorem cO.len {α β : Type} {R : α → β → Prop} : ∀ {a : List α} {b : List β}, cO R a b → a.length = b.length
  | [], [], _ => rfl
  | _ :: _, _ :: _, ⟨_, h⟩ => by simp [cO.len h]
  | [], _ :: _, h => h.elim
  | _ :: _, [], h => h.elim

theorem cO.TG {α β : Type} {R S : α → β → Prop} : ∀ {a : List α} {b : List β}, cO R a b → (∀ x ∈ a, ∀ y, R x y → S x y) → cO S a b
  | [], [], _, _ => trivial
  | x :: _, y :: _, ⟨h1, h2⟩, h => ⟨h x List.mem_cons_self y h1, cO.TG h2 (fun z hz => h z (List.mem_cons_of_mem _ hz))⟩
  | [], _ :: _, h, _ => h.elim
  | _ :: _, [], h, _ => h.elim

section
variable {σ : St} {l d : Nat} {most : Int} {js : List Nat} {segs : List Sg} {safe : Nat}

theorem LG.same (h : LG σ l d most js segs safe) {σ' : St} (e : tV σ' = tV σ) : LG σ' l d most js segs safe := by
  have h1 : σ'.aj = σ.aj := congrArg (fun x => x.2.1) e
  have h2 : σ'.ae = σ.ae := congrArg (fun x => x.2.2) e
  refine ⟨by rw [h1]; exact h.lo, h.nd, h.lie.TG (fun j _ g hg => ?_)⟩
  show σ'.ae[j]? = _
  rw [h2]; exact hg

theorem LG.lt (h : LG σ l d most js segs safe) : ∀ j ∈ js, j < σ.ae.length := by
  intro j hj
  obtain ⟨i, hi, rfl⟩ := List.getElem_of_mem hj
  have hl := cO.len h.lie
  have := cO.nth h.lie i hi (by omega)
  exact (List.getElem?_eq_some_iff.1 this).1

theorem LG.split {pre : List Sg} {g : Sg} (h : LG σ l d most js (pre ++ [g]) safe) : ∃ jp j, js = jp ++ [j] ∧ cO (Lie σ) jp pre ∧ Lie σ j g :=
  cO.split h.lie

theorem JS (h : LG σ l d most js [] safe) : f97 (some l) σ = some none := by
  have : js = [] := by
    have := cO.len h.lie
    exact List.eq_nil_of_length_eq_zero (by simpa using this)
  subst this
  unfold f97
  simp [h.lo]

theorem JR {pre : List Sg} {g : Sg} (h : LG σ l d most js (pre ++ [g]) safe) (hl : pre.length < 1000000) {jp : List Nat} {j : Nat} (e : js = jp ++ [j]) : f97 (some l) σ = some (some j) := by
  subst e
  have hlen := cO.len h.lie
  simp only [List.length_append, List.length_cons, List.length_nil] at hlen
  unfold f97
  simp only [h.lo, Option.bind_eq_bind, Option.bind_some]
  rw [if_neg (by simp; omega)]
  have hw : IntKind.wrap .i64 ((((jp ++ [j]).map some).length : Int) - 1) = ((jp.length : Nat) : Int) := by
    simp only [List.length_map, List.length_append, List.length_cons, List.length_nil]
    rw [aO (by omega) (by omega)]; omega
  have hi : jp.length < ((jp ++ [j]).map some).length := by simp
  rw [hw, oC hi]
  simp

theorem QZ (hg : Good segs) : aJ segs ≤ 1000000 := by
  rcases List.eq_nil_or_concat segs with rfl | ⟨pre, g, rfl⟩
  · simp [aJ]
  · rw [List.concat_eq_append] at *
    rw [iU]
    exact hg.top g (by simp)

theorem Bf (h : LG σ l d most js segs safe) (hg : Good segs) (hl : segs.length ≤ 1000000) : f55 (some l) σ = some ((aJ segs : Nat) : Int) := by
  rcases List.eq_nil_or_concat segs with rfl | ⟨pre, g, rfl⟩
  · have : js = [] := by
      have := cO.len h.lie
      exact List.eq_nil_of_length_eq_zero (by simpa using this)
    subst this
    unfold f55
    simp [h.lo, aJ]
  · rw [List.concat_eq_append] at *
    obtain ⟨jp, j, e, h1, h2⟩ := h.split
    have e97 := JR h (by simp at hl; omega) e
    have ht := hg.top g (by simp)
    unfold sgN at ht
    unfold f55
    simp only [h.lo, e97, Option.isNone_some, Bool.false_eq_true, if_false, Option.bind_eq_bind, Option.bind_some]
    rw [if_neg (by rw [e]; simp; omega), h2]
    simp only [Option.bind_some]
    rw [iU, aO (by omega) (by omega)]
    unfold sgN
    congr 1

theorem OZ (h : LG σ l d most js segs safe) {j : Nat} {g : Int} {x : az dN} (hj : σ.ae[j]? = some x) {n : Nat} (hx : x.1 = (n : Int)) (hn : n ≤ 1099511627776) : f98 (some l) (some j) σ = some (bI n) := by
  have hl := Gv hn
  unfold f98
  simp only [h.lo, hj, hx, aal n (by omega), Option.bind_eq_bind, Option.bind_some]
  rw [if_pos (by decide), if_pos (by simp; omega)]
  rfl

theorem O0 (h : LG σ l d most js segs safe) {j : Nat} {g : Sg} (hj : Lie σ j g) (hn : g.1 ≤ 1099511627776) : f98 (some l) (some j) σ = some (bI g.1) :=
  OZ (g := 0) h hj rfl hn

noncomputable def Bg (segs : List Sg) : Nat := match segs with
  | [] => 0
  | g :: _ => g.1

theorem Yb (h : LG σ l d most js segs safe) : f54 (some l) σ = some ((Bg segs : Nat) : Int) := by
  obtain ⟨lo, nd, lie⟩ := h
  cases segs with
  | nil =>
    cases js with
    | nil => unfold f54; simp [lo, Bg]
    | cons _ _ => exact lie.elim
  | cons g r =>
    cases js with
    | nil => exact lie.elim
    | cons j jr =>
      obtain ⟨h1, h2⟩ := lie
      unfold f54
      simp only [lo, Option.isNone_some, Bool.false_eq_true, if_false, Option.bind_eq_bind, Option.bind_some]
      have hx : ix ((j :: jr).map some) 0 = some (some j) := by
        have := oC (l := (j :: jr).map some) (n := 0) (by simp)
        simpa using this
      rw [if_neg (by simp; omega), hx]
      simp only [Option.bind_some, h1]
      rfl

theorem Tn (h : LG σ l d most js segs safe) : f60 (some l) σ = some (safe : Int) := by
  unfold f60
  simp [h.lo]
end

noncomputable def lgF (g : Sg) (s : Nat) : FR := (bI g.1, gB g.1 (g.2.take s), gB (g.1 + s) (g.2.drop s), ())
noncomputable def lgA (g : Sg) : FR := (bI g.1, sgB g, [], ())

theorem Pv (g : Sg) : lgF g g.2.length = lgA g := by simp [lgF, lgA, sgB, gB]

theorem NC (g : Sg) {s : Nat} (hs : s ≤ g.2.length) : (lgF g s).2.1 ++ (lgF g s).2.2.1 = sgB g := by
  unfold lgF sgB
  simp only []
  have h1 : (g.2.take s).length = s := by rw [List.length_take]; omega
  have h2 := zl g.1 (g.2.take s) (g.2.drop s)
  rw [h1, List.take_append_drop] at h2
  exact h2.symm

inductive DLs (L : List FR) : List Sg → Nat → Prop
  | none : L = [] → DLs L [] 0
  | some {pre : List Sg} {g : Sg} {s : Nat} : L.Perm (pre.map lgA ++ [lgF g s]) → s ≤ g.2.length → DLs L (pre ++ [g]) s

theorem DLs.inv {L : List FR} {pre : List Sg} {g : Sg} {s : Nat} (h : DLs L (pre ++ [g]) s) : L.Perm (pre.map lgA ++ [lgF g s]) ∧ s ≤ g.2.length := by
  generalize hs : pre ++ [g] = segs at h
  cases h with
  | none _ => simp at hs
  | some h1 h2 =>
    obtain ⟨rfl, e⟩ := List.append_inj' hs rfl
    simp only [List.cons.injEq, and_true] at e
    subst e
    exact ⟨h1, h2⟩

theorem DLs.inv0 {L : List FR} {s : Nat} (h : DLs L [] s) : L = [] ∧ s = 0 := by
  generalize hs : ([] : List Sg) = segs at h
  cases h with
  | none h => exact ⟨h, rfl⟩
  | some _ _ => simp at hs

noncomputable def Wp (x : List UInt8) : Option Int := if 5 < x.length ∧ x.take 5 = [99, 109, 100, 115, 46] then (f140 (x.drop 5)) >>= fun v => if 0 ≤ v then some v else none else none

theorem NH {n : Nat} (hn : n ≤ 1099511627776) : Wp (bI n) = some (n : Int) := by
  unfold Wp
  have hp := OQ n
  have e1 : (bI n).drop 5 = dig n := rfl
  have e2 : (bI n).take 5 = [99, 109, 100, 115, 46] := rfl
  have e3 : (bI n).length = (dig n).length + 5 := rfl
  rw [if_pos ⟨by omega, e2⟩, e1, QC hn]
  simp only [Option.bind_eq_bind, Option.bind_some]
  rw [if_pos (by omega)]

section
variable {σ : St} {l d n0 : Nat} {A : AD}

theorem Nb {o : az dh} (h : σ.aj[l]? = some o) (hnm : o.2.1 = nmL) (names : List (List UInt8)) (hN : ∀ x ∈ names, ∃ n : Nat, n ≤ 1099511627776 ∧ x = bI n) (hl : names.length ≤ 128) : ∀ (m i : Nat) (acc : List Int), i + m = names.length → acc.length ≤ i →
    dE (some l) σ names acc (i : Int) = some (acc ++ (names.drop i).filterMap Wp, (names.length : Int))
  | 0, i, acc, hi, ha => by
    rw [dE]
    have : i = names.length := by omega
    subst this
    simp
  | m + 1, i, acc, hi, ha => by
    rw [dE]
    have hn : i < names.length := by omega
    have hw : IntKind.wrap .i64 ((i : Int) + 1) = ((i + 1 : Nat) : Int) := by rw [aO (by omega) (by omega)]; omega
    have hd : names.drop i = names[i] :: names.drop (i + 1) := by simp
    have h1 : ((i : Int) < (names.length : Int)) := by omega
    obtain ⟨n, hn1, hn2⟩ := hN names[i] (List.getElem_mem hn)
    have e4 : IntKind.wrap .i64 (((nmL.length : Nat) : Int) + 1) = 5 := by decide
    have t4 : Int.toNat 5 = 5 := rfl
    have hlen := Cj hn1
    have hp := OQ n
    have e1 : (bI n).drop 5 = dig n := rfl
    have e2 : (bI n).take 5 = [99, 109, 100, 115, 46] := rfl
    have e3 : (bI n).length = (dig n).length + 5 := rfl
    simp only [h1, decide_true, if_true, oC hn, Option.bind_eq_bind, Option.bind_some, h, hnm, e4, hw, hn2]
    rw [if_pos (by simp; omega), if_pos (by omega)]
    simp only [t4]
    rw [if_pos (by decide), e2]
    have e5 : nmL ++ [46] = ([99, 109, 100, 115, 46] : List UInt8) := rfl
    rw [e5, if_pos (by simp), if_pos (by omega), e1, Ba, QC hn1]
    simp only [Option.bind_some]
    rw [if_pos (by simp), if_pos (by omega), Nb h hnm names hN hl m (i + 1) (acc ++ [(n : Int)]) (by omega) (by simp; omega), hd, List.filterMap_cons, hn2, NH hn1]
    simp

theorem Ry {l l' : List Int} (h : l.Perm l') (hs : l'.Pairwise (· < ·)) : tK l = l' := by
  unfold tK
  have hp := (List.mergeSort_perm l (fun x y => decide (x ≤ y))).trans h
  refine hp.eq_of_pairwise (le := fun x y => x ≤ y) ?_ ?_ ?_
  · intro a b _ _ h1 h2; omega
  · have := List.pairwise_mergeSort (le := fun x y : Int => decide (x ≤ y)) (fun a b c h1 h2 => by simp only [decide_eq_true_eq] at *; omega) (fun a b => by simp only [Bool.or_eq_true, decide_eq_true_eq]; omega) l
    exact this.imp (fun h => by simpa using h)
  · exact hs.imp (fun h => by omega)

noncomputable def qP (segs : List Sg) : List Int := segs.map (fun g => (g.1 : Int))

theorem UR {o : az dh} (h : σ.aj[l]? = some o) (hnm : o.2.1 = nmL) (ho : o.1 = some d) (hD : DV σ d n0 A) (hA : OkA A) {segs : List Sg} (hN : (A.2.1.map (·.1)).Perm (segs.map (fun g => bI g.1))) (hg : Good segs) : iR (some l) σ = some (qP segs) := by
  obtain ⟨od, qs, hq⟩ := hD
  have hf := hA.files
  unfold iR
  simp only [h, ho, X8 hq hA, Option.bind_eq_bind, Option.bind_some]
  have htop : ∀ g ∈ segs, g.1 ≤ 1099511627776 := fun g hg2 => by have := hg.top g hg2; unfold sgN at this; omega
  have hNn : ∀ x ∈ A.2.1.map (·.1), ∃ n : Nat, n ≤ 1099511627776 ∧ x = bI n := by
    intro x hx
    obtain ⟨g, hg2, rfl⟩ := List.mem_map.1 (hN.mem_iff.1 hx)
    exact ⟨g.1, htop g hg2, rfl⟩
  have e := Nb h hnm (A.2.1.map (·.1)) hNn (by simpa using hf) (A.2.1.map (·.1)).length 0 [] (by omega) (by simp)
  rw [show (((0 : Nat) : Int)) = (0 : Int) from rfl] at e
  rw [e]
  simp only [Option.bind_some, List.nil_append, List.drop_zero]
  have hlen : ((A.2.1.map (·.1)).filterMap Wp).length ≤ 128 := by
    refine Nat.le_trans (List.length_filterMap_le _ _) ?_
    simpa using hf
  rw [if_pos (by omega)]
  congr 1
  refine Ry ?_ ?_
  · refine (hN.filterMap Wp).trans ?_
    have : ∀ r : List Sg, (∀ g ∈ r, g ∈ segs) → (r.map (fun g => bI g.1)).filterMap Wp = qP r := by
      intro r
      induction r with
      | nil => intro _; rfl
      | cons g r ih =>
        intro hr
        rw [List.map_cons, List.filterMap_cons, NH (htop g (hr g List.mem_cons_self)), ih (fun x hx => hr x (List.mem_cons_of_mem _ hx))]
        rfl
    rw [this segs (fun g hg => hg)]
  · unfold qP
    rw [List.pairwise_map]
    exact hg.chain.rise.imp (fun h => by omega)
end
end Go.Proofs.YtbnmhjobnepajaaGreat.M


namespace Go.Proofs.YtbnmhjobnepajaaGreat.M

theorem S9 {s : List UInt8} {L : List FR} (h : ∀ f ∈ L, f.1 ≠ s) : jU s L = L := by
  rw [mW, List.filter_eq_self]
  intro f hf; simpa using h f hf

theorem OT (s : List UInt8) (L L' : List FR) : jU s (L ++ L') = jU s L ++ jU s L' := by
  rw [mW, mW, mW, List.filter_append]

theorem VP {s : List UInt8} {L : List FR} (h : ∀ f ∈ L, f.1 = s) : jU s L = [] := by
  rw [mW, List.filter_eq_nil_iff]
  intro f hf; simpa using h f hf

theorem yg {A : AD} (hA : OkA A) (hd : A.2.2.2.1 = false) (k : AD → AD) : ∃ B : AD, B.1 = A.1 ∧ B.2.1 = A.2.1 ∧ OkA B ∧ (A.2.2.1 = 0 → B.2.2.1 = 0) ∧
    ((B.2.2.2.1 = false ∧ vF A k = (0, k B)) ∨ (B.2.2.2.1 = true ∧ A.2.2.1 ≠ 0 ∧ vF A k = (11, B))) := by
  refine ⟨(uM A).2, (UY A).2, (UY A).1, hA.goes, ?_, ?_⟩
  · intro h
    unfold uM
    rw [if_pos h]; exact h
  · unfold vF uM
    by_cases h : A.2.2.1 = 0
    · rw [if_pos h]
      exact .inl ⟨hd, by simp⟩
    · rw [if_neg h]
      by_cases h1 : A.2.2.1 = 1
      · exact .inr ⟨by simp [h1], h, by simp [h1]⟩
      · have e : ((A.2.2.1 == 1) : Bool) = false := by simpa using h1
        exact .inl ⟨by simp [e], by simp [e]⟩

abbrev kD (A : AD) : Bool := A.2.2.2.1
abbrev nO (A : AD) : Int := A.2.2.1

end Go.Proofs.YtbnmhjobnepajaaGreat.M


namespace Go.Proofs.YtbnmhjobnepajaaGreat.M

structure Fw (σ σ' : St) (d n0 : Nat) : Prop where
  up : σ'.up = σ.up
  af : ∀ i, i ≠ d → i < σ.af.length → σ'.af[i]? = σ.af[i]?
  l105 : σ.af.length ≤ σ'.af.length
  ai : ∀ j, j < n0 → σ'.ai[j]? = σ.ai[j]?
  l108 : σ.ai.length ≤ σ'.ai.length

structure ExW (σ σ' : St) (l : Nat) : Prop where
  aj : ∀ i, i ≠ l → i < σ.aj.length → σ'.aj[i]? = σ.aj[i]?
  l128 : σ.aj.length ≤ σ'.aj.length
  ae : ∀ j, j < σ.ae.length → σ'.ae[j]? = σ.ae[j]?
  l130 : σ.ae.length ≤ σ'.ae.length

section
variable {σ : St} {l d n0 : Nat} {most : Int} {js : List Nat} {segs : List Sg} {safe s : Nat} {A : AD}

theorem ExW.trans {σ σ' σ'' : St} (h1 : ExW σ σ' l) (h2 : ExW σ' σ'' l) : ExW σ σ'' l :=
  ⟨fun i hi hl => (h2.aj i hi (Nat.lt_of_lt_of_le hl h1.l128)).trans (h1.aj i hi hl), Nat.le_trans h1.l128 h2.l128, fun j hj => (h2.ae j (Nat.lt_of_lt_of_le hj h1.l130)).trans (h1.ae j hj), Nat.le_trans h1.l130 h2.l130⟩
theorem ExW.of {σ' : St} (h1 : σ'.aj = σ.aj) (h2 : σ'.ae = σ.ae) : ExW σ σ' l := ⟨fun _ _ _ => by rw [h1], by rw [h1]; exact Nat.le_refl _, fun _ _ => by rw [h2], by rw [h2]; exact Nat.le_refl _⟩
theorem FrD.ex {σ' : St} (h : FrD σ σ' d n0) : ExW σ σ' l := ExW.of (congrArg (fun x => x.2.1) h.oth) (congrArg (fun x => x.2.2) h.oth)
theorem ExW.set (x : az dh) : ExW σ (σ.aZ l x) l := by
  refine ⟨fun i hi hl => ?_, by simp [St.aZ], fun _ _ => rfl, Nat.le_refl _⟩
  simp only [St.aZ]
  rw [List.getElem?_set_ne (Ne.symm hi)]
theorem ExW.add (x : az dN) : ExW σ (σ.ay x) l := by
  refine ⟨fun i hi hl => rfl, Nat.le_refl _, fun j hj => ?_, by simp [St.ay]⟩
  simp only [St.ay]
  rw [List.getElem?_append_left hj]
theorem Fw.trans {σ σ' σ'' : St} (h1 : Fw σ σ' d n0) (h2 : Fw σ' σ'' d n0) : Fw σ σ'' d n0 :=
  ⟨h2.up.trans h1.up, fun i hi hl => (h2.af i hi (Nat.lt_of_lt_of_le hl h1.l105)).trans (h1.af i hi hl), Nat.le_trans h1.l105 h2.l105, fun j hj => (h2.ai j hj).trans (h1.ai j hj), Nat.le_trans h1.l108 h2.l108⟩
theorem FrD.fw {σ σ' : St} (h : FrD σ σ' d n0) : Fw σ σ' d n0 := ⟨h.up, h.af, h.l105, h.ai, h.l108⟩
theorem Fw.of {σ' : St} (h1 : σ'.up = σ.up) (h2 : σ'.af = σ.af) (h3 : σ'.ai = σ.ai) : Fw σ σ' d n0 :=
  ⟨h1, fun i _ _ => by rw [h2], by rw [h2]; exact Nat.le_refl _, fun i _ => by rw [h3], by rw [h3]; exact Nat.le_refl _⟩
theorem LG.put (h : LG σ l d most js segs safe) (n : Nat) : LG (σ.aZ l (some d, nmL, most, js.map some, (n : Int), ())) l d most js segs n :=
  ⟨pI h.lo, h.nd, h.lie⟩

theorem LG.add (h : LG σ l d most js segs safe) (x : az dN) : LG (σ.ay x) l d most js segs safe := by
  refine ⟨h.lo, h.nd, h.lie.TG (fun j hj g hg => ?_)⟩
  show (σ.ae ++ [x])[j]? = _
  rw [List.getElem?_append_left (h.lt j hj)]; exact hg

theorem LG.link (h : LG σ l d most js segs safe) {j : Nat} {g : Sg} (hj : Lie σ j g) (hn : j ∉ js) : LG (σ.aZ l (some d, nmL, most, js.map some ++ [some j], (safe : Int), ())) l d most (js ++ [j]) (segs ++ [g]) safe := by
  refine ⟨?_, ?_, ?_⟩
  · rw [List.map_append]; exact pI h.lo
  · rw [List.nodup_append]
    refine ⟨h.nd, by simp, fun a ha b hb e => ?_⟩
    simp only [List.mem_cons, List.not_mem_nil, or_false] at hb
    rw [e, hb] at ha
    exact hn ha
  · exact cO.app h.lie (show cO _ [j] [g] from ⟨hj, trivial⟩)

theorem Lj {x y : az dN} : (σ.ay x).ax σ.ae.length y = σ.ay y := by
  unfold St.ax St.ay
  simp

noncomputable def jP (segs : List Sg) : Nat := match segs.getLast? with
  | none => 0
  | some g => g.2.length

theorem oM (pre : List Sg) (g : Sg) : jP (pre ++ [g]) = g.2.length := by simp [jP]

theorem Good.Vm (hg : Good segs) {g : Sg} (h : g ∈ segs) : g.1 ≤ 1099511627776 := by
  have := hg.top g h
  unfold sgN at this; omega

theorem O5 {pre : List Sg} {g : Sg} (h : Chn none (pre ++ [g])) : ∀ f ∈ pre.map lgA, f.1 ≠ bI g.1 := by
  intro f hf
  obtain ⟨a, ha, rfl⟩ := List.mem_map.1 hf
  have := (List.pairwise_append.1 h.rise).2.2 a ha g (by simp)
  intro e
  exact Nat.ne_of_lt this (Np e)

theorem GU {L : List FR} {pre : List Sg} {g : Sg} {f : FR} (hL : L.Perm (pre.map lgA ++ [f])) (hf : f.1 = bI g.1) (hs : qf L) : jE (bI g.1) L = some f :=
  ET hs (hL.mem_iff.2 (by simp)) hf

theorem Kw {L : List FR} {pre : List Sg} {g : Sg} {f f' : FR} (hL : L.Perm (pre.map lgA ++ [f])) (hf : f.1 = bI g.1) (hf' : f'.1 = bI g.1) (hc : Chn none (pre ++ [g])) : (lW f' false L).Perm (pre.map lgA ++ [f']) := by
  refine (nz f' L).trans ?_
  rw [hf']
  have h1 := xO (s := bI g.1) hL
  rw [OT, S9 (O5 hc), VP (L := [f]) (fun x hx => by simp only [List.mem_cons, List.not_mem_nil, or_false] at hx; rw [hx]; exact hf), List.append_nil] at h1
  exact (List.Perm.cons f' h1).trans (List.perm_append_comm (l₁ := [f']))

theorem Tq (h : LG σ l d most js segs safe) (hD : DV σ d n0 A) (hA : OkA A) (hg : Good segs) (hlen : segs.length ≤ 1000000) (hL : DLs A.2.1 segs s) (hd : kD A = false) :
    ∃ σ' B e, f61 (some l) σ = some (e, σ') ∧ Fw σ σ' d n0 ∧ ExW σ σ' l ∧ B.1 = A.1 ∧ (nO A = 0 → nO B = 0) ∧ DV σ' d n0 B ∧ OkA B ∧
      ((e = 0 ∧ kD B = false ∧ LG σ' l d most js segs (aJ segs) ∧ DLs B.2.1 segs (jP segs)) ∨ (e = 11 ∧ kD B = true ∧ nO A ≠ 0 ∧ LG σ' l d most js segs safe ∧ DLs B.2.1 segs s)) := by
  rcases List.eq_nil_or_concat segs with rfl | ⟨pre, g, rfl⟩
  · obtain ⟨h1, h2⟩ := hL.inv0
    refine ⟨σ.aZ l (some d, nmL, most, js.map some, ((aJ [] : Nat) : Int), ()), A, 0, ?_, Fw.of rfl rfl rfl, ExW.set _, rfl, id, hD.same rfl rfl, hA, .inl ⟨rfl, hd, h.put _, ?_⟩⟩
    · unfold f61
      have hlo := h.lo
      simp only [Option.isNone_some, Bool.false_eq_true, if_false, JS h, Bf h hg hlen, hlo, Option.bind_eq_bind, Option.bind_some]
      rw [if_neg (by simp)]
    · rw [h1]; exact .none rfl
  · rw [List.concat_eq_append] at *
    obtain ⟨hp, hs⟩ := hL.inv
    obtain ⟨jp, j, e, h1, h2⟩ := h.split
    have htop := hg.Vm (g := g) (by simp)
    obtain ⟨σ1, g1, g2, g3⟩ := abx hD hA (bI g.1)
    have hfd := GU hp rfl hA.sorted
    have e0 : Lt A (bI g.1) = vF A (fun B => pG B (lW (BQ (bI g.1) (lgF g s)) false B.2.1)) := by
      unfold Lt NZ
      rw [if_neg (by rw [show A.2.2.2.1 = false from hd]; decide), hfd]
    have hsf : BQ (bI g.1) (lgF g s) = lgF g g.2.length := by
      rw [Pv]
      unfold BQ lgA
      rw [NC g hs]
    have hlo := h.lo
    have e1 : f61 (some l) σ = some (if (Lt A (bI g.1)).1 = 0 then (0, σ1.aZ l (some d, nmL, most, js.map some, ((aJ (pre ++ [g]) : Nat) : Int), ())) else ((Lt A (bI g.1)).1, σ1)) := by
      have h' := h.same g3.oth
      have hlo' := h'.lo
      unfold f61
      simp only [Option.isNone_some, Bool.false_eq_true, if_false, JR h (by simp at hlen; omega) e, hlo, O0 h h2 htop, g1, Option.bind_eq_bind, Option.bind_some, Bool.not_false, if_true]
      by_cases c : (Lt A (bI g.1)).1 = 0
      · rw [if_neg (by simp [c]), if_pos c, Bf h' hg hlen]
        simp only [Option.bind_some, hlo']
      · rw [if_pos (by simpa using c), if_neg c]
    obtain ⟨B, b1, b2, b3, b4, ⟨b5, b6⟩ | ⟨b5, b6, b7⟩⟩ := yg hA hd (fun B => pG B (lW (BQ (bI g.1) (lgF g s)) false B.2.1))
    · rw [e0, b6] at g2 e1
      refine ⟨σ1.aZ l (some d, nmL, most, js.map some, ((aJ (pre ++ [g]) : Nat) : Int), ()), pG B (lW (BQ (bI g.1) (lgF g s)) false B.2.1), 0, by rw [e1]; rfl, g3.fw.trans (Fw.of rfl rfl rfl), g3.ex.trans (ExW.set _), b1, b4, g2.same rfl rfl, ?_, .inl ⟨rfl, b5, (h.same g3.oth).put _, ?_⟩⟩
      · refine b3.put (f := lgF g s) (s := bI g.1) (by rw [b2]; exact hfd) rfl ?_
        simp [gV, BQ]
      · show DLs (lW (BQ (bI g.1) (lgF g s)) false B.2.1) (pre ++ [g]) (jP (pre ++ [g]))
        rw [b2, hsf, oM]
        exact .some (Kw hp rfl rfl hg.chain) (Nat.le_refl _)
    · rw [e0, b7] at g2 e1
      exact ⟨σ1, B, 11, by rw [e1]; rfl, g3.fw, g3.ex, b1, b4, g2, b3, .inr ⟨rfl, b5, b6, h.same g3.oth, by rw [b2]; exact .some hp hs⟩⟩

theorem aak (h : LG σ l d most js segs safe) (hD : DV σ d n0 A) (hA : OkA A) {g : Sg} {t : List UInt8} (hr : readA A (bI g.1) = (sgB g ++ t, 0)) (ht : ED (sgN g) t) (hx : ∀ x ∈ g.2, OkR x) (hn : sgN g ≤ 1000000) :
    f115 (some l) (g.1 : Int) σ = some ((some σ.ae.length, (t.length : Int), 0), σ.ay ((g.1 : Int), g.2, ((sgB g).length : Int), ())) := by
  unfold sgN at hn ht
  have h1 := h.add ((g.1 : Int), [], 0, ())
  obtain ⟨o, qs, hq⟩ := hD
  have e28 := abu (hq.same (σ' := σ.ay ((g.1 : Int), [], 0, ())) rfl rfl) hA (bI g.1)
  have e98 := OZ (g := 0) h1 (j := σ.ae.length) mX (n := g.1) rfl (by omega)
  have hl := hA.each
  have hlen : (sgB g ++ t).length ≤ 65536 := by
    unfold readA at hr
    split at hr
    · simp at hr
    · split at hr
      · simp at hr
      · rename_i f hf
        simp only [Prod.mk.injEq, and_true] at hr
        have := hA.each f (qO hf).1
        unfold gV at this
        rw [← hr]; simp only [List.length_append]; omega
  have e49 := abA (s := sgB g ++ t) (f := g.1) (recs := g.2) (t := t) (by omega) rfl (by unfold OkN; omega) hx ht
  have hlo : (σ.ay ((g.1 : Int), [], 0, ())).aj[l]? = some (some d, nmL, most, js.map some, (safe : Int), ()) := h1.lo
  unfold f115
  simp only [hlo, e98, e28, hr, Option.bind_eq_bind, Option.bind_some]
  rw [if_neg (by simp), e49]
  simp only [Option.bind_some]
  rw [Lj, Lj]
  have hw : IntKind.wrap .i64 (((sgB g ++ t).length : Int) - ((gB g.1 g.2).length : Int)) = (t.length : Int) := by
    have : (sgB g ++ t).length = (gB g.1 g.2).length + t.length := by rw [List.length_append]; rfl
    rw [this, aO (by omega) (by omega)]; omega
  rw [hw]
  rfl

theorem QH (done : List Sg) (r3 : List Int) (x7 x8 : Int) (h : LG σ l d most js done safe) (hD : DV σ d n0 A) (hA : OkA A) {g : Sg} {t : List UInt8} (hi : r3[done.length]? = some (g.1 : Int)) (h7 : done ≠ [] → x7 = 0 ∧ aJ done = g.1) (hgd : Good done) (hdl : done.length ≤ 1000)
    (hr : readA A (bI g.1) = (sgB g ++ t, 0)) (ht : ED (sgN g) t) (hx : ∀ x ∈ g.2, OkR x) (hn : sgN g ≤ 1000000) :
    ∃ σ', pV (some l) r3 x7 x8 ((done.length : Nat) : Int) σ = pV (some l) r3 (t.length : Int) (((done ++ [g]).length : Nat) : Int) (((done ++ [g]).length : Nat) : Int) σ' ∧ LG σ' l d most (js ++ [σ.ae.length]) (done ++ [g]) safe ∧ σ'.af = σ.af ∧ σ'.ai = σ.ai ∧ σ'.up = σ.up ∧ ExW σ σ' l := by
  have hlt := (List.getElem?_eq_some_iff.1 hi).1
  have hget := (List.getElem?_eq_some_iff.1 hi).2
  have e115 := aak h hD hA hr ht hx hn
  have h1 := h.add ((g.1 : Int), g.2, ((sgB g).length : Int), ())
  have hnj : σ.ae.length ∉ js := fun hm => by have := h.lt _ hm; omega
  have h2 := h1.link (j := σ.ae.length) (g := g) mX hnj
  have hjl := cO.len h.lie
  have hlo : (σ.ay ((g.1 : Int), g.2, ((sgB g).length : Int), ())).aj[l]? = some (some d, nmL, most, js.map some, (safe : Int), ()) := h1.lo
  have hw : IntKind.wrap .i64 ((done.length : Int) + 1) = (((done ++ [g]).length : Nat) : Int) := by rw [aO (by omega) (by omega)]; simp
  refine ⟨_, ?_, h2, rfl, rfl, rfl, (ExW.add _).trans (ExW.set _)⟩
  conv => lhs; rw [pV]
  rw [if_pos (by simp; omega), oC hlt, hget]
  simp only [Option.bind_eq_bind, Option.bind_some]
  by_cases c : done = []
  · subst c
    rw [if_neg (by simp), e115]
    simp only [Option.bind_some]
    rw [if_neg (by simp)]
    simp only [Option.bind_some, hlo, hw]
    rw [if_pos (by rw [List.length_map]; omega)]
  · obtain ⟨h3, h4⟩ := h7 c
    subst h3
    have hpos : 0 < done.length := List.length_pos_iff.2 c
    rw [if_pos (by simp; omega), if_neg (by simp), Bf h hgd (by omega), h4]
    simp only [Option.bind_some]
    rw [if_neg (by simp), e115]
    simp only [Option.bind_some]
    rw [if_neg (by simp)]
    simp only [Option.bind_some, hlo, hw]
    rw [if_pos (by rw [List.length_map]; omega)]
end
end Go.Proofs.YtbnmhjobnepajaaGreat.M


namespace Go.Proofs.YtbnmhjobnepajaaGreat.M

theorem Chn.Y4 : ∀ {a b : List Sg} {e : Option Nat}, Chn e (a ++ b) → Chn e a
  | [], _, _, _ => trivial
  | g :: a, b, e, h => by
    obtain ⟨h1, h2, h3⟩ := h
    refine ⟨h1, fun hn => h2 (fun he => hn ?_), Chn.Y4 h3⟩
    exact (List.append_eq_nil_iff.1 he).1

theorem Chn.next : ∀ {pre : List Sg} {b a : Sg} {r : List Sg} {e : Option Nat}, Chn e (pre ++ [b] ++ a :: r) → sgN b = a.1
  | [], b, a, r, e, h => by
    obtain ⟨h1, h2, h3⟩ := h
    exact (h3.1 _ rfl).symm
  | c :: pre, b, a, r, e, h => Chn.next (pre := pre) h.2.2

theorem Good.Y4 {a b : List Sg} (h : Good (a ++ b)) : Good a :=
  ⟨h.chain.Y4, fun g hg => h.recs g (List.mem_append.2 (.inl hg)), fun g hg => h.top g (List.mem_append.2 (.inl hg))⟩

noncomputable def tN (g : Sg) (t : List UInt8) : FR := (bI g.1, sgB g ++ t, [], ())

section
variable {σ : St} {l d n0 : Nat} {most : Int} {js : List Nat} {segs : List Sg} {safe s : Nat} {A : AD}

theorem Nk {g : Sg} {t : List UInt8} (ht : ED (sgN g) t) (hA : OkA A) : ∀ (mid done : List Sg) (js : List Nat) (σ : St) (x7 x8 : Int), LG σ l d most js done safe → DV σ d n0 A → (done ≠ [] → x7 = 0) → Good (done ++ (mid ++ [g])) → (done ++ (mid ++ [g])).length ≤ 1000 →
    (∀ a ∈ mid, readA A (bI a.1) = (sgB a, 0)) → readA A (bI g.1) = (sgB g ++ t, 0) →
    ∃ σ' js', pV (some l) (qP (done ++ (mid ++ [g]))) x7 x8 ((done.length : Nat) : Int) σ = some (.inl ((t.length : Int), (((done ++ (mid ++ [g])).length : Nat) : Int), (((done ++ (mid ++ [g])).length : Nat) : Int), σ')) ∧ LG σ' l d most js' (done ++ (mid ++ [g])) safe ∧ σ'.af = σ.af ∧ σ'.ai = σ.ai ∧ σ'.up = σ.up ∧ ExW σ σ' l
  | [], done, js, σ, x7, x8, h, hD, h7, hg, hlen, hm, hr => by
    rw [List.nil_append] at *
    have hgm : g ∈ done ++ [g] := by simp
    obtain ⟨σ', e, h1, h2, h3, h4, h5⟩ := QH (t := t) done (qP (done ++ [g])) x7 x8 h hD hA (g := g) (by simp [qP]) (fun hn => ⟨h7 hn, by
      rcases List.eq_nil_or_concat done with rfl | ⟨pre, b, rfl⟩
      · exact absurd rfl hn
      · rw [List.concat_eq_append] at *
        rw [iU]; exact hg.chain.next⟩) hg.Y4 (by simp at hlen; omega) hr ht (hg.recs g hgm) (hg.top g hgm)
    refine ⟨σ', _, ?_, h1, h2, h3, h4, h5⟩
    rw [e, pV]
    rw [if_neg (by simp [qP])]
  | a :: mid, done, js, σ, x7, x8, h, hD, h7, hg, hlen, hm, hr => by
    have ham : a ∈ done ++ (a :: mid ++ [g]) := by simp
    have hgood : Good done := hg.Y4
    have hr1 : readA A (bI a.1) = (sgB a ++ [], 0) := by rw [List.append_nil]; exact hm a List.mem_cons_self
    obtain ⟨σ1, e, h1, h2, h3, h4, h5⟩ := QH (t := []) done (qP (done ++ (a :: mid ++ [g]))) x7 x8 h hD hA (g := a) (by simp [qP]) (fun hn => ⟨h7 hn, by
      rcases List.eq_nil_or_concat done with rfl | ⟨pre, b, rfl⟩
      · exact absurd rfl hn
      · rw [List.concat_eq_append] at *
        rw [iU]; exact hg.chain.next⟩) hgood (by simp at hlen; omega) hr1 (ED.nil _) (hg.recs a ham) (hg.top a ham)
    have ea : done ++ (a :: mid ++ [g]) = (done ++ [a]) ++ (mid ++ [g]) := by simp
    rw [ea] at e hg hlen ⊢
    obtain ⟨σ', js', i1, i2, i3, i4, i5, i6⟩ := Nk ht hA mid (done ++ [a]) _ σ1 0 (((done ++ [a]).length : Nat) : Int) h1 (hD.same h2 h3) (fun _ => rfl) hg hlen (fun x hx => hm x (List.mem_cons_of_mem _ hx)) hr
    refine ⟨σ', js', ?_, i2, i3.trans h2, i4.trans h3, i5.trans h4, h5.trans i6⟩
    rw [e]; exact i1

theorem JQ {p0 : Option Nat} {r3 : List Int} {z : Int × Int × Int × St} {o : az dh} {x : Int} (h : x < z.2.1) : zB p0 r3 z o x σ = some (.inl (x, σ)) := by
  rw [zB]
  rw [if_neg (by simp; omega)]

theorem Uf {L : List FR} {pre : List Sg} {g : Sg} {t : List UInt8} (hp : A.2.1.Perm (pre.map lgA ++ [tN g t])) (hA : OkA A) (hd : kD A = false) :
    (∀ a ∈ pre, readA A (bI a.1) = (sgB a, 0)) ∧ readA A (bI g.1) = (sgB g ++ t, 0) := by
  have hdd : A.2.2.2.1 = false := hd
  refine ⟨fun a ha => ?_, ?_⟩
  · have hf : jE (bI a.1) A.2.1 = some (lgA a) := ET hA.sorted (hp.mem_iff.2 (List.mem_append.2 (.inl (List.mem_map.2 ⟨a, ha, rfl⟩)))) rfl
    unfold readA
    rw [if_neg (by rw [hdd]; decide), hf]
    simp [lgA]
  · have hf : jE (bI g.1) A.2.1 = some (tN g t) := ET hA.sorted (hp.mem_iff.2 (by simp)) rfl
    unfold readA
    rw [if_neg (by rw [hdd]; decide), hf]
    simp [tN]

theorem abJ {pre : List Sg} {g : Sg} {t : List UInt8} (h : LG σ l d most [] [] 0) (hD : DV σ d n0 A) (hA : OkA A) (hd : kD A = false) (h0 : nO A = 0) (hg : Good (pre ++ [g])) (hlen : (pre ++ [g]).length ≤ 1000) (ht : ED (sgN g) t) (hp : A.2.1.Perm (pre.map lgA ++ [tN g t])) :
    ∃ σ' B js', f96 (some l) σ = some (0, σ') ∧ Fw σ σ' d n0 ∧ ExW σ σ' l ∧ B.1 = A.1 ∧ nO B = 0 ∧ kD B = false ∧ DV σ' d n0 B ∧ OkA B ∧ LG σ' l d most js' (pre ++ [g]) (aJ (pre ++ [g])) ∧ DLs B.2.1 (pre ++ [g]) (jP (pre ++ [g])) := by
  have hlo := h.lo
  obtain ⟨r1, r2⟩ := Uf (L := []) hp hA hd
  have e114 := UR (o := (some d, nmL, most, ([] : List Nat).map some, (((0 : Nat) : Nat) : Int), ())) hlo rfl rfl hD hA (segs := pre ++ [g]) (by
    refine (hp.map _).trans ?_
    rw [List.map_append, List.map_append, List.map_map]
    exact List.Perm.refl _) hg
  obtain ⟨σ1, js1, i1, i2, i3, i4, i5, i6⟩ := Nk ht hA pre [] [] σ 0 0 h hD (by simp) hg hlen r1 r2
  rw [List.nil_append] at i1 i2
  have i1' : pV (some l) (qP (pre ++ [g])) 0 0 0 σ = some (.inl ((t.length : Int), (((pre ++ [g]).length : Nat) : Int), (((pre ++ [g]).length : Nat) : Int), σ1)) := i1
  have hlo1 := i2.lo
  have hD1 : DV σ1 d n0 A := hD.same i3 i4
  have hfw1 : Fw σ σ1 d n0 := Fw.of i5 i3 i4
  obtain ⟨jp, j, ej, l1, l2⟩ := i2.split
  have htop := hg.Vm (g := g) (by simp)
  have hlB := hg.acv (g := g) (by simp)
  have hl1 : IntKind.wrap .i64 (((qP (pre ++ [g])).length : Int) - 1) = ((pre.length : Nat) : Int) := by
    simp only [qP, List.length_map, List.length_append, List.length_cons, List.length_nil] at hlen ⊢
    rw [aO (by omega) (by omega)]; omega
  have hw1 : IntKind.wrap .i64 ((((pre ++ [g]).length : Nat) : Int) - 1) = ((pre.length : Nat) : Int) := by
    simp only [List.length_append, List.length_cons, List.length_nil] at hlen ⊢
    rw [aO (by omega) (by omega)]; omega
  have hjl : jp.length = pre.length := cO.len l1
  have hix : ix (js1.map some) ((pre.length : Nat) : Int) = some (some j) := by
    rw [ej, ← hjl]
    have hi : jp.length < ((jp ++ [j]).map some).length := by simp
    rw [oC hi]; simp
  have common : f96 (some l) σ = (if (decide ((t.length : Int) > 0)) = true then
      f98 (some l) (some j) σ1 >>= fun r79 => (σ1.ae[j]?) >>= fun o81 => f35 (some d) r79 o81.2.2.1 σ1 >>= fun r82 => if (r82.1 != 0) = true then some (r82.1, r82.2) else f61 (some l) r82.2 >>= fun r86 => some (r86.1, r86.2)
    else f61 (some l) σ1 >>= fun r88 => some (r88.1, r88.2)) := by
    unfold f96
    rw [e114]
    simp only [Option.bind_eq_bind, Option.bind_some]
    rw [i1']
    simp only [Option.bind_some, hlo1]
    rw [hl1, JQ (by simp; omega)]
    simp only [Option.bind_some, hlo1]
    rw [if_neg (by simp; omega), hw1, hix]
    rfl
  -- torn or not: the files are whole then
  have fin : ∀ (σ2 : St) (A2 : AD), LG σ2 l d most js1 (pre ++ [g]) 0 → DV σ2 d n0 A2 → OkA A2 → kD A2 = false → nO A2 = 0 → A2.2.1.Perm (pre.map lgA ++ [lgA g]) → A2.1 = A.1 → Fw σ σ2 d n0 → ExW σ σ2 l →
      ∃ σ' B, f61 (some l) σ2 = some (0, σ') ∧ Fw σ σ' d n0 ∧ ExW σ σ' l ∧ B.1 = A.1 ∧ nO B = 0 ∧ kD B = false ∧ DV σ' d n0 B ∧ OkA B ∧ LG σ' l d most js1 (pre ++ [g]) (aJ (pre ++ [g])) ∧ DLs B.2.1 (pre ++ [g]) (jP (pre ++ [g])) := by
    intro σ2 A2 k1 k2 k3 k4 k5 k6 k7 k8 k9
    have hdl : DLs A2.2.1 (pre ++ [g]) g.2.length := .some (by rw [Pv]; exact k6) (Nat.le_refl _)
    obtain ⟨σ', B, e, f1, f2, f2x, f3, f4, f5, f6, ⟨rfl, f7, f8, f9⟩ | ⟨_, _, f7, _⟩⟩ := Tq k1 k2 k3 hg (by omega) hdl k4
    · exact ⟨σ', B, f1, k8.trans f2, k9.trans f2x, f3.trans k7, f4 k5, f7, f5, f6, f8, f9⟩
    · exact absurd k5 f7
  by_cases c : t = []
  · subst c
    obtain ⟨σ', B, f1, f2⟩ := fin σ1 A i2 hD1 hA hd h0 (by
      have : tN g [] = lgA g := by simp [tN, lgA]
      rw [← this]; exact hp) rfl hfw1 i6
    refine ⟨σ', B, js1, ?_, f2⟩
    rw [common, if_neg (by simp), f1]
    rfl
  · have hpos : 0 < t.length := List.length_pos_iff.2 c
    obtain ⟨σ2, g1, g2, g3⟩ := abz hD1 hA (bI g.1) ((sgB g).length : Int)
    have hfd := GU hp rfl hA.sorted
    have e0 : PV A (bI g.1) ((sgB g).length : Int) = vF A (fun B => pG B (lW (Gu (bI g.1) (tN g t) (sgB g).length) false B.2.1)) := by
      unfold PV NZ
      rw [if_neg (by rw [show A.2.2.2.1 = false from hd]; decide), hfd]
      simp only []
      have hsz : gV (tN g t) = (sgB g).length + t.length := by simp [gV, tN]
      rw [if_neg (by rw [hsz]; omega)]
      have : Int.toNat ((sgB g).length : Int) = (sgB g).length := by omega
      rw [this]
    have hcut : Gu (bI g.1) (tN g t) (sgB g).length = lgA g := by
      unfold Gu tN lgA
      rw [if_pos (by simp)]
      simp
    obtain ⟨B, b1, b2, b3, b4, ⟨b5, b6⟩ | ⟨b5, b6, b7⟩⟩ := yg hA hd (fun B => pG B (lW (Gu (bI g.1) (tN g t) (sgB g).length) false B.2.1))
    case inr => exact absurd h0 b6
    rw [e0, b6] at g1 g2
    have hok : OkA (pG B (lW (Gu (bI g.1) (tN g t) (sgB g).length) false B.2.1)) := by
      refine b3.put (f := tN g t) (s := bI g.1) (by rw [b2]; exact hfd) (by rw [hcut]; rfl) ?_
      rw [hcut]; simp [gV, lgA, tN]
    obtain ⟨σ', B2, f1, f2⟩ := fin σ2 _ (i2.same g3.oth) g2 hok b5 (b4 h0) (by
      show (lW (Gu (bI g.1) (tN g t) (sgB g).length) false B.2.1).Perm _
      rw [b2, hcut]
      exact Kw hp rfl rfl hg.chain) b1 (hfw1.trans g3.fw) (i6.trans g3.ex)
    refine ⟨σ', B2, js1, ?_, f2⟩
    rw [common, if_pos (by simpa using hpos), O0 i2 l2 htop]
    simp only [Option.bind_eq_bind, Option.bind_some, l2]
    rw [g1]
    simp only [Option.bind_some]
    rw [if_neg (by simp), f1]
    rfl

theorem Yj (h : LG σ l d most [] [] 0) (hD : DV σ d n0 A) (hA : OkA A) (hL : A.2.1 = []) : f96 (some l) σ = some (0, σ) := by
  have hlo := h.lo
  have e114 := UR (o := (some d, nmL, most, ([] : List Nat).map some, (((0 : Nat) : Nat) : Int), ())) hlo rfl rfl hD hA (segs := []) (by rw [hL]; exact List.Perm.refl _) ⟨trivial, by simp, by simp⟩
  unfold f96
  rw [e114]
  simp only [Option.bind_eq_bind, Option.bind_some]
  have e1 : pV (some l) (qP []) 0 0 0 σ = some (.inl (0, 0, 0, σ)) := by
    rw [pV]
    rw [if_neg (by simp [qP])]
  rw [e1]
  simp only [Option.bind_some, hlo]
  rw [JQ (by simp [qP]; decide)]
  simp

theorem Ya (hD : DV σ d n0 A) (hd : kD A = false) (h1 : 64 ≤ most) (h2 : most ≤ 65536) : f53 (some d) nmL most σ = f96 (some σ.aj.length) (σ.gK (some d, nmL, most, [], 0, ())) >>= fun r15 => if (r15.1 != 0) = true then some ((none, r15.1), r15.2) else some ((some σ.aj.length, 0), r15.2) := by
  obtain ⟨o, qs, hq⟩ := hD
  unfold f53
  simp only [Option.isNone_some, Bool.false_eq_true, if_false, aan, abw hq, show A.2.2.2.1 = false from hd, Option.bind_eq_bind, Option.bind_some]
  rw [if_neg (by simp; omega)]

theorem LG.new (σ : St) (d : Nat) (most : Int) : LG (σ.gK (some d, nmL, most, [], 0, ())) σ.aj.length d most [] [] 0 :=
  ⟨QP, List.nodup_nil, trivial⟩

theorem ExW.gK (x : az dh) : ExW σ (σ.gK x) σ.aj.length := by
  refine ⟨fun i hi hl => ?_, by simp [St.gK], fun _ _ => rfl, Nat.le_refl _⟩
  simp only [St.gK]
  rw [List.getElem?_append_left hl]

theorem NJ (hD : DV σ d n0 A) (hA : OkA A) (hd : kD A = false) (hL : A.2.1 = []) (h1 : 64 ≤ most) (h2 : most ≤ 65536) :
    ∃ σ', f53 (some d) nmL most σ = some ((some σ.aj.length, 0), σ') ∧ Fw σ σ' d n0 ∧ ExW σ σ' σ.aj.length ∧ DV σ' d n0 A ∧ LG σ' σ.aj.length d most [] [] 0 := by
  refine ⟨σ.gK (some d, nmL, most, [], 0, ()), ?_, Fw.of rfl rfl rfl, ExW.gK _, hD.same rfl rfl, LG.new σ d most⟩
  rw [Ya hD hd h1 h2, Yj (LG.new σ d most) (hD.same rfl rfl) hA hL]
  rfl

theorem Wu {pre : List Sg} {g : Sg} {t : List UInt8} (hD : DV σ d n0 A) (hA : OkA A) (hd : kD A = false) (h0 : nO A = 0) (hg : Good (pre ++ [g])) (hlen : (pre ++ [g]).length ≤ 1000) (ht : ED (sgN g) t) (hp : A.2.1.Perm (pre.map lgA ++ [tN g t])) (h1 : 64 ≤ most) (h2 : most ≤ 65536) :
    ∃ σ' B js', f53 (some d) nmL most σ = some ((some σ.aj.length, 0), σ') ∧ Fw σ σ' d n0 ∧ ExW σ σ' σ.aj.length ∧ B.1 = A.1 ∧ nO B = 0 ∧ kD B = false ∧ DV σ' d n0 B ∧ OkA B ∧ LG σ' σ.aj.length d most js' (pre ++ [g]) (aJ (pre ++ [g])) ∧ DLs B.2.1 (pre ++ [g]) (jP (pre ++ [g])) := by
  obtain ⟨σ', B, js', e, f1, f1x, f2⟩ := abJ (LG.new σ d most) (hD.same rfl rfl) hA hd h0 hg hlen ht hp
  refine ⟨σ', B, js', ?_, (Fw.of rfl rfl rfl : Fw σ (σ.gK (some d, nmL, most, [], 0, ())) d n0).trans f1, (ExW.gK _).trans f1x, f2⟩
  rw [Ya hD hd h1 h2, e]
  rfl
end
end Go.Proofs.YtbnmhjobnepajaaGreat.M


namespace Go.Proofs.YtbnmhjobnepajaaGreat.M

noncomputable def Hf (segs : List Sg) (s : Nat) : Nat := match segs.getLast? with
  | none => 0
  | some g => g.1 + s
theorem mO (pre : List Sg) (g : Sg) (s : Nat) : Hf (pre ++ [g]) s = g.1 + s := by simp [Hf]
theorem zQ (segs : List Sg) : Hf segs (jP segs) = aJ segs := by
  rcases List.eq_nil_or_concat segs with rfl | ⟨pre, g, rfl⟩
  · rfl
  · rw [List.concat_eq_append, mO, oM, iU]; rfl

inductive More : List Sg → List UInt8 → List Sg → Prop
  | fresh {segs : List Sg} {x : List UInt8} : (segs = [] ∨ 0 < jP segs) → More segs x (segs ++ [(aJ segs, [x])])
  | same {pre : List Sg} {g : Sg} {x : List UInt8} : More (pre ++ [g]) x (pre ++ [(g.1, g.2 ++ [x])])

theorem More.next {segs segs' : List Sg} {x : List UInt8} (h : More segs x segs') : aJ segs' = aJ segs + 1 := by
  cases h with
  | fresh h => rw [iU]; rfl
  | same => rw [iU, iU]; unfold sgN; simp only [List.length_append, List.length_cons, List.length_nil]; omega

theorem More.len {segs segs' : List Sg} {x : List UInt8} (h : More segs x segs') : segs'.length ≤ segs.length + 1 ∧ segs' ≠ [] := by
  cases h with
  | fresh h => simp
  | same => simp

theorem More.good {segs segs' : List Sg} {x : List UInt8} (h : More segs x segs') (hg : Good segs) (hx : OkR x) (hn : aJ segs + 1 ≤ 1000000) : Good segs' := by
  cases h with
  | @fresh segs x h =>
    refine ⟨?_, ?_, ?_⟩
    · rcases List.eq_nil_or_concat segs with rfl | ⟨pre, g, rfl⟩
      · exact ⟨by simp, by simp, trivial⟩
      · rw [List.concat_eq_append] at *
        refine hg.chain.snoc (by rw [iU]) ?_
        rcases h with h | h
        · simp at h
        · rwa [oM] at h
    · intro a ha
      rcases List.mem_append.1 ha with ha | ha
      · exact hg.recs a ha
      · simp only [List.mem_cons, List.not_mem_nil, or_false] at ha
        subst ha
        intro y hy
        simp only [List.mem_cons, List.not_mem_nil, or_false] at hy
        rw [hy]; exact hx
    · intro a ha
      rcases List.mem_append.1 ha with ha | ha
      · exact hg.top a ha
      · simp only [List.mem_cons, List.not_mem_nil, or_false] at ha
        subst ha
        unfold sgN
        simp only [List.length_cons, List.length_nil]; omega
  | @same pre g x =>
    have hgm : g ∈ pre ++ [g] := by simp
    refine ⟨hg.chain.last rfl, ?_, ?_⟩
    · intro a ha
      rcases List.mem_append.1 ha with ha | ha
      · exact hg.recs a (List.mem_append.2 (.inl ha))
      · simp only [List.mem_cons, List.not_mem_nil, or_false] at ha
        subst ha
        intro y hy
        rcases List.mem_append.1 hy with hy | hy
        · exact hg.recs g hgm y hy
        · simp only [List.mem_cons, List.not_mem_nil, or_false] at hy
          rw [hy]; exact hx
    · intro a ha
      rcases List.mem_append.1 ha with ha | ha
      · exact hg.top a (List.mem_append.2 (.inl ha))
      · simp only [List.mem_cons, List.not_mem_nil, or_false] at ha
        subst ha
        rw [iU] at hn
        unfold sgN at *
        simp only [List.length_append, List.length_cons, List.length_nil]; omega

section
variable {σ : St} {l d n0 : Nat} {most : Int} {js : List Nat} {segs : List Sg} {safe s : Nat} {A : AD}

structure WS (σ : St) (l d n0 : Nat) (most : Int) (A : AD) (js : List Nat) (segs : List Sg) (safe s : Nat) : Prop where
  lg : LG σ l d most js segs safe
  dv : DV σ d n0 A
  ok : OkA A
  dl : DLs A.2.1 segs s
  good : Good segs
  len : segs.length ≤ 900
  sf : safe = Hf segs s

theorem V3 (hg : Good segs) (hne : segs = [] ∨ 0 < jP segs) : ∀ g ∈ segs, g.1 ≠ aJ segs := by
  rcases List.eq_nil_or_concat segs with rfl | ⟨pre, g, rfl⟩
  · simp
  · rw [List.concat_eq_append] at *
    rw [iU]
    have hpos : 0 < g.2.length := by
      rcases hne with h | h
      · simp at h
      · rwa [oM] at h
    intro a ha
    rcases List.mem_append.1 ha with ha | ha
    · have := (List.pairwise_append.1 hg.chain.rise).2.2 a ha g (by simp)
      unfold sgN; omega
    · simp only [List.mem_cons, List.not_mem_nil, or_false] at ha
      subst ha
      unfold sgN; omega

theorem DLs.all {L : List FR} (h : DLs L segs (jP segs)) : L.Perm (segs.map lgA) := by
  rcases List.eq_nil_or_concat segs with rfl | ⟨pre, g, rfl⟩
  · rw [(h.inv0).1]; exact List.Perm.refl _
  · rw [List.concat_eq_append] at *
    have := h.inv.1
    rw [oM, Pv] at this
    rw [List.map_append]; exact this

theorem aaI {L : List FR} {f : FR} (hL : L.Perm (segs.map lgA)) (hf : ∀ g ∈ segs, bI g.1 ≠ f.1) : jE f.1 L = none ∧ (lW f false L).Perm (segs.map lgA ++ [f]) := by
  have hno : jE f.1 L = none := Yk (fun a ha => by
    obtain ⟨g, hg, rfl⟩ := List.mem_map.1 (hL.mem_iff.1 ha)
    exact hf g hg)
  refine ⟨hno, ?_⟩
  refine (nz f L).trans ?_
  rw [zy hno]
  exact (List.Perm.cons f hL).trans (List.perm_append_comm (l₁ := [f]))

noncomputable def szR (l : List (List UInt8)) : Nat := (l.map (fun x => 24 + x.length)).sum
noncomputable def szS (segs : List Sg) : Nat := (segs.map (fun g => szR g.2)).sum

theorem PO {n : Nat} {x : List UInt8} (hn : OkN n) (hx : OkR x) : (ig n x).length ≤ 24 + x.length := by
  have h0 := uY (n := n) (by unfold OkN at hn; omega)
  have h1 := BN hn hx
  have h2 := uY (n := (nK n x).length) (by omega)
  have h3 : (nK n x).length = (mJ n).length + x.length + 4 := by unfold nK; rw [Hg, List.length_append]
  unfold ig
  rw [List.length_append]; omega

theorem Vd : ∀ (n : Nat) (l : List (List UInt8)), OkN (n + l.length) → (∀ x ∈ l, OkR x) → (gB n l).length ≤ szR l
  | n, [], _, _ => by simp [gB]
  | n, x :: r, hn, hx => by
    have hn' : n + (r.length + 1) < 4611686018427387904 := hn
    have h1 := PO (n := n) (x := x) (by unfold OkN; omega) (hx x List.mem_cons_self)
    have h2 := Vd (n + 1) r (by unfold OkN; omega) (fun y hy => hx y (List.mem_cons_of_mem _ hy))
    unfold szR at h2 ⊢
    simp only [gB, List.length_append, List.map_cons, List.sum_cons]
    omega

theorem DLs.used {L : List FR} (h : DLs L segs s) (hg : Good segs) : iL L ≤ szS segs := by
  have each : ∀ g ∈ segs, (sgB g).length ≤ szR g.2 := by
    intro g hgm
    have := hg.top g hgm
    unfold sgN at this
    exact Vd g.1 g.2 (by unfold OkN; omega) (hg.recs g hgm)
  have all : ∀ r : List Sg, (∀ g ∈ r, g ∈ segs) → iL (r.map lgA) ≤ szS r := by
    intro r
    induction r with
    | nil => intro _; simp [iL]
    | cons g r ih =>
      intro hr
      have h1 := each g (hr g List.mem_cons_self)
      have h2 := ih (fun x hx => hr x (List.mem_cons_of_mem _ hx))
      unfold szS at h2 ⊢
      simp only [List.map_cons, iL, List.sum_cons, gV, lgA, List.length_nil]
      omega
  rcases List.eq_nil_or_concat segs with rfl | ⟨pre, g, rfl⟩
  · rw [(h.inv0).1]; simp [iL]
  · rw [List.concat_eq_append] at *
    obtain ⟨hp, hs⟩ := h.inv
    rw [uA hp, Gf]
    have h1 := all pre (fun x hx => List.mem_append.2 (.inl hx))
    have h2 := each g (by simp)
    have h3 : iL [lgF g s] = (sgB g).length := by
      have := congrArg List.length (NC g hs)
      rw [List.length_append] at this
      simp only [iL, gV]; omega
    unfold szS at h1 ⊢
    rw [List.map_append, List.sum_append, h3]
    simp only [List.map_cons, List.map_nil, List.sum_cons, List.sum_nil]
    omega

noncomputable def Over (A : AD) (segs : List Sg) (x : List UInt8) : Prop := A.1 < ((24 + x.length + szS segs : Nat) : Int) ∨ 128 ≤ segs.length ∨ 65536 < 24 + x.length + szS segs

theorem TC (h : LG σ l d most js segs safe) (hD : DV σ d n0 A) (hA : OkA A) (hg : Good segs) (hd : kD A = false) (hL : DLs A.2.1 segs (jP segs)) {x : List UInt8} (hx : OkR x) (hn : aJ segs + 1 ≤ 1000000) (hne : segs = [] ∨ 0 < jP segs) :
    ∃ e σ2 B, f24 (some d) (bI (aJ segs)) (ig (aJ segs) x) (σ.ay ((aJ segs : Int), [], 0, ())) = some (e, σ2) ∧ Fw σ σ2 d n0 ∧ B.1 = A.1 ∧ (nO A = 0 → nO B = 0) ∧ DV σ2 d n0 B ∧ OkA B ∧ σ2.ae[σ.ae.length]? = some ((aJ segs : Int), [], 0, ()) ∧ LG σ2 l d most js segs safe ∧
      ((e = 0 ∧ kD B = false ∧ DLs B.2.1 (segs ++ [(aJ segs, [x])]) 0 ∧
          LG ((σ2.ax σ.ae.length ((aJ segs : Int), [x], ((ig (aJ segs) x).length : Int), ())).aZ l (some d, nmL, most, js.map some ++ [some σ.ae.length], (safe : Int), ())) l d most (js ++ [σ.ae.length]) (segs ++ [(aJ segs, [x])]) safe) ∨
       (e = 10 ∧ kD B = false ∧ DLs B.2.1 segs (jP segs) ∧ Over A segs x) ∨
       (e = 11 ∧ kD B = true ∧ nO A ≠ 0 ∧ DLs B.2.1 (segs ++ [(aJ segs, [x])]) 0)) := by
  have hle := QZ hg
  have hnm := Cj (n := aJ segs) (by omega)
  have h1 := h.add ((aJ segs : Int), [], 0, ())
  obtain ⟨σ2, g1, g2, g3⟩ := X9 (hD.same (σ' := σ.ay ((aJ segs : Int), [], 0, ())) rfl rfl) hA (bI (aJ segs)) (ig (aJ segs) x) (by omega)
  have h2 := h1.same g3.oth
  have e130 : σ2.ae = (σ.ay ((aJ segs : Int), [], 0, ())).ae := congrArg (fun x => x.2.2) g3.oth
  have hnew : σ2.ae[σ.ae.length]? = some ((aJ segs : Int), [], 0, ()) := by rw [e130]; exact mX
  have hfw : Fw σ σ2 d n0 := (Fw.of rfl rfl rfl : Fw σ (σ.ay ((aJ segs : Int), [], 0, ())) d n0).trans g3.fw
  have hall := hL.all
  have hap := V3 hg hne
  obtain ⟨s1, s2⟩ := aaI (f := lgF (aJ segs, [x]) 0) hall (fun g hgm e => hap g hgm (Np e))
  have hfl : (lgF (aJ segs, [x]) 0).1 = bI (aJ segs) := rfl
  rw [hfl] at s1
  have hmore : ru (lI (bI (aJ segs))) (ig (aJ segs) x) = lgF (aJ segs, [x]) 0 := by
    simp [ru, lI, lgF, gB]
  by_cases hc : full A (bI (aJ segs)) (ig (aJ segs) x)
  · have e0 : uB A (bI (aJ segs)) (ig (aJ segs) x) = (10, A) := by
      unfold uB
      rw [if_neg (by rw [show A.2.2.2.1 = false from hd]; decide), if_neg (by rw [wz (by omega)]; decide), if_pos hc]
    rw [e0] at g1 g2
    refine ⟨10, σ2, A, g1, hfw, rfl, id, g2, hA, hnew, h2, .inr (.inl ⟨rfl, hd, hL, ?_⟩)⟩
    have hu := hL.used hg
    have hb := PO (n := aJ segs) (x := x) (by unfold OkN; omega) hx
    have hlen : A.2.1.length = segs.length := by rw [hall.length_eq]; simp
    unfold Over
    unfold full at hc
    rw [s1] at hc
    simp only [Option.getD_none] at hc
    have hz : gV (lI (bI (aJ segs))) = 0 := rfl
    rw [hz] at hc
    rcases hc with ⟨_, hc⟩ | hc | hc
    · right; left; omega
    · right; right; omega
    · left; omega
  · have hB := hA.appended hc
    rw [s1] at hB
    have e0 : uB A (bI (aJ segs)) (ig (aJ segs) x) = vF (pG A (lW (lgF (aJ segs, [x]) 0) false A.2.1)) id := by
      unfold uB
      rw [if_neg (by rw [show A.2.2.2.1 = false from hd]; decide), if_neg (by rw [wz (by omega)]; decide), if_neg hc, s1]
      simp only [Option.getD_none, hmore]
    simp only [Option.getD_none, hmore] at hB
    have hdl : DLs (lW (lgF (aJ segs, [x]) 0) false A.2.1) (segs ++ [(aJ segs, [x])]) 0 := .some s2 (Nat.zero_le _)
    obtain ⟨B, b1, b2, b3, b4, ⟨b5, b6⟩ | ⟨b5, b6, b7⟩⟩ := yg (A := pG A (lW (lgF (aJ segs, [x]) 0) false A.2.1)) hB hd id
    · rw [e0, b6] at g1 g2
      refine ⟨0, σ2, B, g1, hfw, b1, b4, g2, b3, hnew, h2, .inl ⟨rfl, b5, by rw [b2]; exact hdl, ?_⟩⟩
      have hnj : σ.ae.length ∉ js := fun hm => by have := h.lt _ hm; omega
      have h3 : LG (σ2.ax σ.ae.length ((aJ segs : Int), [x], ((ig (aJ segs) x).length : Int), ())) l d most js segs safe := by
        refine ⟨h2.lo, h2.nd, h2.lie.TG (fun j hj g hgj => ?_)⟩
        show (σ2.ae.set σ.ae.length _)[j]? = _
        rw [List.getElem?_set_ne (fun e : σ.ae.length = j => hnj (by rw [e]; exact hj))]; exact hgj
      have := h3.link (j := σ.ae.length) (g := (aJ segs, [x])) (by
        have e : sgB (aJ segs, [x]) = ig (aJ segs) x := by simp [sgB, gB]
        show _ = some (((aJ segs : Nat) : Int), [x], ((sgB (aJ segs, [x])).length : Int), ())
        rw [e]; exact ve hnew) hnj
      exact this
    · rw [e0, b7] at g1 g2
      exact ⟨11, σ2, B, g1, hfw, b1, b4, g2, b3, hnew, h2, .inr (.inr ⟨rfl, b5, b6, by rw [b2]; exact hdl⟩)⟩

theorem QV {g : Sg} {x : List UInt8} (hs : s ≤ g.2.length) : ru (lgF g s) (ig (sgN g) x) = lgF (g.1, g.2 ++ [x]) s := by
  unfold ru lgF
  simp only []
  rw [List.take_append_of_le_length hs, List.drop_append_of_le_length hs, zl]
  have : g.1 + s + (g.2.drop s).length = sgN g := by rw [List.length_drop]; unfold sgN; omega
  rw [this]
  simp [gB]

theorem WC {pre : List Sg} {g : Sg} (hD : DV σ d n0 A) (hA : OkA A) (hg : Good (pre ++ [g])) (hd : kD A = false) (hL : DLs A.2.1 (pre ++ [g]) s) {x : List UInt8} (hx : OkR x) :
    ∃ e σ2 B, f24 (some d) (bI g.1) (ig (sgN g) x) σ = some (e, σ2) ∧ FrD σ σ2 d n0 ∧ B.1 = A.1 ∧ (nO A = 0 → nO B = 0) ∧ DV σ2 d n0 B ∧ OkA B ∧
      ((e = 0 ∧ kD B = false ∧ DLs B.2.1 (pre ++ [(g.1, g.2 ++ [x])]) s) ∨ (e = 10 ∧ kD B = false ∧ DLs B.2.1 (pre ++ [g]) s ∧ Over A (pre ++ [g]) x) ∨ (e = 11 ∧ kD B = true ∧ nO A ≠ 0 ∧ DLs B.2.1 (pre ++ [(g.1, g.2 ++ [x])]) s)) := by
  have htop := hg.Vm (g := g) (by simp)
  have hnm := Cj htop
  obtain ⟨hp, hs⟩ := hL.inv
  obtain ⟨σ2, g1, g2, g3⟩ := X9 hD hA (bI g.1) (ig (sgN g) x) (by omega)
  have hfd := GU hp rfl hA.sorted
  by_cases hc : full A (bI g.1) (ig (sgN g) x)
  · have e0 : uB A (bI g.1) (ig (sgN g) x) = (10, A) := by
      unfold uB
      rw [if_neg (by rw [show A.2.2.2.1 = false from hd]; decide), if_neg (by rw [wz htop]; decide), if_pos hc]
    rw [e0] at g1 g2
    refine ⟨10, σ2, A, g1, g3, rfl, id, g2, hA, .inr (.inl ⟨rfl, hd, hL, ?_⟩)⟩
    have hu := hL.used hg
    have htg := hg.top g (by simp)
    have hb := PO (n := sgN g) (x := x) (by unfold OkN; omega) hx
    have hfs : gV (lgF g s) ≤ iL A.2.1 := by
      rw [uA hp, Gf]
      simp only [iL]; omega
    unfold Over
    unfold full at hc
    rw [hfd] at hc
    simp only [Option.getD_some] at hc
    rcases hc with ⟨hc, _⟩ | hc | hc
    · simp at hc
    · right; right; omega
    · left; omega
  · have hB := hA.appended hc
    rw [hfd] at hB
    simp only [Option.getD_some, QV hs] at hB
    have e0 : uB A (bI g.1) (ig (sgN g) x) = vF (pG A (lW (lgF (g.1, g.2 ++ [x]) s) false A.2.1)) id := by
      unfold uB
      rw [if_neg (by rw [show A.2.2.2.1 = false from hd]; decide), if_neg (by rw [wz htop]; decide), if_neg hc, hfd]
      simp only [Option.getD_some, QV hs]
    have hdl : DLs (lW (lgF (g.1, g.2 ++ [x]) s) false A.2.1) (pre ++ [(g.1, g.2 ++ [x])]) s := by
      refine .some (Kw hp rfl rfl hg.chain) ?_
      rw [List.length_append]; omega
    obtain ⟨B, b1, b2, b3, b4, ⟨b5, b6⟩ | ⟨b5, b6, b7⟩⟩ := yg (A := pG A (lW (lgF (g.1, g.2 ++ [x]) s) false A.2.1)) hB hd id
    · rw [e0, b6] at g1 g2
      exact ⟨0, σ2, B, g1, g3, b1, b4, g2, b3, .inl ⟨rfl, b5, by rw [b2]; exact hdl⟩⟩
    · rw [e0, b7] at g1 g2
      exact ⟨11, σ2, B, g1, g3, b1, b4, g2, b3, .inr (.inr ⟨rfl, b5, b6, by rw [b2]; exact hdl⟩)⟩

theorem LG.more {pre : List Sg} {g : Sg} {x : List UInt8} {jp : List Nat} {j : Nat} (h : LG σ l d most (jp ++ [j]) (pre ++ [g]) safe) :
    LG (σ.ax j ((g.1 : Int), g.2 ++ [x], ((sgB (g.1, g.2 ++ [x])).length : Int), ())) l d most (jp ++ [j]) (pre ++ [(g.1, g.2 ++ [x])]) safe := by
  obtain ⟨jp', j', e, h1, h2⟩ := h.split
  obtain ⟨rfl, ej⟩ := List.append_inj' e rfl
  simp only [List.cons.injEq, and_true] at ej
  subst ej
  have hnj : j ∉ jp := fun hm => (List.nodup_append.1 h.nd).2.2 j hm j (by simp) rfl
  refine ⟨h.lo, h.nd, cO.app (h1.TG (fun k hk a ha => ?_)) (show cO _ [j] [_] from ⟨?_, trivial⟩)⟩
  · show (σ.ae.set j _)[k]? = _
    rw [List.getElem?_set_ne (fun e : j = k => hnj (by rw [e]; exact hk))]; exact ha
  · exact ve h2

theorem Ep {j : Nat} {x y : az dN} : (σ.ax j x).ax j y = σ.ax j y := by unfold St.ax; simp

structure Oj (σ : St) (l d n0 : Nat) (most : Int) (A : AD) (js : List Nat) (segs : List Sg) (safe s : Nat) (x : List UInt8) (v e : Int) (σ' : St) (B : AD) (js' : List Nat) (segs' : List Sg) (safe' s' : Nat) : Prop where
  run : f59 (some l) x σ = some ((v, e), σ')
  fw : Fw σ σ' d n0
  room : B.1 = A.1
  arm : nO A = 0 → nO B = 0
  out : (e = 0 ∧ v = (aJ segs : Int) ∧ kD B = false ∧ More segs x segs' ∧ safe' ≤ aJ segs ∧ WS σ' l d n0 most B js' segs' safe' s') ∨
        (e = 10 ∧ kD B = false ∧ segs' = segs ∧ Over A segs x ∧ WS σ' l d n0 most B js' segs' safe' s') ∨
        (e = 11 ∧ kD B = true ∧ nO A ≠ 0 ∧ (segs' = segs ∨ More segs x segs') ∧ f60 (some l) σ' = some (safe' : Int) ∧ safe' ≤ Hf segs' s' ∧ DV σ' d n0 B ∧ OkA B ∧ DLs B.2.1 segs' s')
  up : safe ≤ safe'

theorem zS (h : WS σ l d n0 most A js segs safe s) : safe ≤ aJ segs := by
  rw [h.sf]
  have hd := h.dl
  rcases List.eq_nil_or_concat segs with rfl | ⟨pre, g, rfl⟩
  · exact Nat.le_refl _
  · rw [List.concat_eq_append] at *
    rw [mO, iU]
    have := hd.inv.2
    unfold sgN; omega

theorem Vw {B : AD} {x : List UInt8} (e : B.1 = A.1) (h : Over B segs x) : Over A segs x := by
  unfold Over at *
  rw [e] at h
  exact h

theorem Nj (h : WS σ l d n0 most A js segs safe s) (hd : kD A = false) {x : List UInt8} (hx : OkR x) (hn : aJ segs + 1 ≤ 1000000) (hln : segs.length ≤ 800) (hne : segs = [] ∨ 0 < jP segs)
    (hfr : ∀ (σ1 : St) (B1 : AD), LG σ1 l d most js segs (aJ segs) → f61 (some l) σ = some (0, σ1) → ∀ (e : Int) (σ2 : St), f24 (some d) (bI (aJ segs)) (ig (aJ segs) x) (σ1.ay ((aJ segs : Int), [], 0, ())) = some (e, σ2) → σ2.ae[σ1.ae.length]? = some ((aJ segs : Int), [], 0, ()) → LG σ2 l d most js segs (aJ segs) →
      f59 (some l) x σ = some (if e = 0 then (((aJ segs : Int), 0), (σ2.ax σ1.ae.length ((aJ segs : Int), [x], ((ig (aJ segs) x).length : Int), ())).aZ l (some d, nmL, most, js.map some ++ [some σ1.ae.length], (aJ segs : Int), ())) else ((0, e), σ2)))
    (hfail : ∀ (σ1 : St), f61 (some l) σ = some (11, σ1) → f59 (some l) x σ = some ((0, 11), σ1)) :
    ∃ v e σ' B js' segs' safe' s', Oj σ l d n0 most A js segs safe s x v e σ' B js' segs' safe' s' := by
  have hsn := zS h
  obtain ⟨σ1, B1, e1, g1, r1, _, a1, v1, k1, k2, ⟨rfl, d1, l1, m1⟩ | ⟨rfl, d1, w1, l1, m1⟩⟩ := Tq h.lg h.dv h.ok h.good (by have := h.len; omega) h.dl hd
  · obtain ⟨e2, σ2, B2, g2, r2, a2, v2, k3, k4, n2, l2, o⟩ := TC l1 k1 k2 h.good d1 m1 hx hn hne
    have hrun := hfr σ1 B1 l1 g1 e2 σ2 g2 n2 l2
    have hmore : More segs x (segs ++ [(aJ segs, [x])]) := .fresh hne
    rcases o with ⟨rfl, o1, o2, o3⟩ | ⟨rfl, o1, o2, o2x⟩ | ⟨rfl, o1, o2, o3⟩
    · rw [if_pos rfl] at hrun
      refine ⟨_, _, _, B2, _, _, aJ segs, 0, hrun, (r1.trans r2).trans (Fw.of rfl rfl rfl), a2.trans a1, fun hh => v2 (v1 hh), .inl ⟨rfl, rfl, o1, hmore, Nat.le_refl _, o3, k3.same rfl rfl, k4, o2, hmore.good h.good hx hn, ?_, ?_⟩, hsn⟩
      · rw [List.length_append]; simp only [List.length_cons, List.length_nil]; omega
      · rw [mO]; rfl
    · rw [if_neg (by decide)] at hrun
      exact ⟨_, _, _, B2, _, _, aJ segs, jP segs, hrun, r1.trans r2, a2.trans a1, fun hh => v2 (v1 hh), .inr (.inl ⟨rfl, o1, rfl, Vw (segs := segs) a1 o2x, l2, k3, k4, o2, h.good, h.len, (zQ segs).symm⟩), hsn⟩
    · rw [if_neg (by decide)] at hrun
      exact ⟨_, _, _, B2, js, _, aJ segs, 0, hrun, r1.trans r2, a2.trans a1, fun hh => v2 (v1 hh), .inr (.inr ⟨rfl, o1, fun hh => o2 (v1 hh), .inr hmore, Tn l2, by rw [mO]; exact Nat.le_refl _, k3, k4, o3⟩), hsn⟩
  · have hrun := hfail σ1 g1
    exact ⟨_, _, σ1, B1, js, segs, safe, s, hrun, r1, a1, v1, .inr (.inr ⟨rfl, d1, w1, .inl rfl, Tn l1, by rw [← h.sf]; exact Nat.le_refl _, k1, k2, m1⟩), Nat.le_refl _⟩
end
end Go.Proofs.YtbnmhjobnepajaaGreat.M


namespace Go.Proofs.YtbnmhjobnepajaaGreat.M

section
variable {σ : St} {l d n0 : Nat} {most : Int} {js : List Nat} {segs : List Sg} {safe s : Nat} {A : AD}

theorem Yd (h : WS σ l d n0 most A js [] safe s) (hd : kD A = false) {x : List UInt8} (hx : OkR x) : ∃ v e σ' B js' segs' safe' s', Oj σ l d n0 most A js [] safe s x v e σ' B js' segs' safe' s' := by
  have hx' : x.length ≤ 1024 := hx
  have hn0 : aJ [] = 0 := rfl
  have hj : js = [] := by
    have := cO.len h.lg.lie
    exact List.eq_nil_of_length_eq_zero (by simpa using this)
  refine Nj h hd hx (by decide) (by simp) (.inl rfl) ?_ ?_
  · intro σ1 B1 l1 g1 e σ2 g2 n2 l2
    have h1 := l1.add ((aJ [] : Int), [], 0, ())
    have hlo1 := h1.lo
    have hlo2 := l2.lo
    have e98 := OZ (g := 0) h1 (j := σ1.ae.length) mX (n := aJ []) rfl (by decide)
    unfold f59
    simp only [Option.isNone_some, Bool.false_eq_true, if_false, Bf h.lg h.good (by simp), JS h.lg, Option.bind_eq_bind, Option.bind_some]
    rw [if_neg (by simp; omega)]
    simp only [Option.isNone_none, if_true]
    rw [g1]
    simp only [Option.bind_some]
    rw [if_neg (by simp), Tu (by decide) hx]
    simp only [Option.bind_some, hlo1, e98]
    rw [g2]
    simp only [Option.bind_some]
    by_cases c : e = 0
    · subst c
      rw [if_neg (by simp), if_pos rfl, n2]
      simp only [Option.bind_some]
      rw [if_pos (by decide), Ep]
      have hlo3 : (σ2.ax σ1.ae.length ((aJ [] : Int), [] ++ [x], IntKind.wrap .i64 (0 + ((ig (aJ []) x).length : Int)), ())).aj[l]? = some (some d, nmL, most, js.map some, ((aJ [] : Nat) : Int), ()) := hlo2
      rw [hlo3]
      simp only [Option.bind_some]
      have hrl := KU (n := aJ []) (by decide) hx
      rw [if_pos (by rw [hj]; decide)]
      have hw : IntKind.wrap .i64 (0 + ((ig (aJ []) x).length : Int)) = ((ig (aJ []) x).length : Int) := by rw [aO (by omega) (by omega)]; omega
      rw [hw]
      rfl
    · rw [if_pos (by simpa using c), if_neg c]
  · intro σ1 g1
    unfold f59
    simp only [Option.isNone_some, Bool.false_eq_true, if_false, Bf h.lg h.good (by simp), JS h.lg, Option.bind_eq_bind, Option.bind_some]
    rw [if_neg (by simp; omega)]
    simp only [Option.isNone_none, if_true]
    rw [g1]
    simp only [Option.bind_some]
    rw [if_pos (by simp)]

theorem Ye {pre : List Sg} {g : Sg} (h : WS σ l d n0 most A js (pre ++ [g]) safe s) (hd : kD A = false) {x : List UInt8} (hx : OkR x) (hn : aJ (pre ++ [g]) + 1 ≤ 1000000) (hln : (pre ++ [g]).length ≤ 800) (hmo : 1 ≤ most) :
    ∃ v e σ' B js' segs' safe' s', Oj σ l d n0 most A js (pre ++ [g]) safe s x v e σ' B js' segs' safe' s' := by
  have hx' : x.length ≤ 1024 := hx
  obtain ⟨jp, j, ej, q1, q2⟩ := h.lg.split
  have hjl : jp.length = pre.length := cO.len q1
  have hlo := h.lg.lo
  have htop := h.good.Vm (g := g) (by simp)
  have htg := h.good.top g (by simp)
  have hlB := h.good.acv (g := g) (by simp)
  have hrl := KU (n := aJ (pre ++ [g])) (by unfold OkN; omega) hx
  have e97 := JR h.lg (by simp at hln; omega) ej
  have e55 := Bf h.lg h.good (by omega)
  have hml : (js.map some).length = pre.length + 1 := by rw [ej]; simp [hjl]
  have hml2 : (js.map some).length ≤ 800 := by rw [hml]; simp at hln; omega
  by_cases hfresh : most ≤ ((sgB g).length : Int)
  · have hpos : 0 < g.2.length := by
      rcases Nat.eq_zero_or_pos g.2.length with h0 | h0
      · have : g.2 = [] := List.eq_nil_of_length_eq_zero h0
        unfold sgB at hfresh
        rw [this] at hfresh
        simp [gB] at hfresh
        omega
      · exact h0
    refine Nj h hd hx hn hln (.inr (by rw [oM]; exact hpos)) ?_ ?_
    · intro σ1 B1 l1 g1 e σ2 g2 n2 l2
      have h1 := l1.add ((aJ (pre ++ [g]) : Int), [], 0, ())
      have hlo1 := h1.lo
      have hlo2 := l2.lo
      have e98 := OZ (g := 0) h1 (j := σ1.ae.length) mX (n := aJ (pre ++ [g])) rfl (by omega)
      unfold f59
      simp only [Option.isNone_some, Bool.false_eq_true, if_false, e55, e97, q2, hlo, Option.bind_eq_bind, Option.bind_some]
      rw [if_neg (by simp; omega), if_pos (by simpa using hfresh), g1]
      simp only [Option.bind_some]
      rw [if_neg (by simp), Tu (by unfold OkN; omega) hx]
      simp only [Option.bind_some, hlo1, e98]
      rw [g2]
      simp only [Option.bind_some]
      by_cases c : e = 0
      · subst c
        rw [if_neg (by simp), if_pos rfl, n2]
        simp only [Option.bind_some]
        rw [if_pos (by simp), if_pos (by simpa using hfresh), Ep]
        have hlo3 : (σ2.ax σ1.ae.length ((aJ (pre ++ [g]) : Int), [] ++ [x], IntKind.wrap .i64 (0 + ((ig (aJ (pre ++ [g])) x).length : Int)), ())).aj[l]? = some (some d, nmL, most, js.map some, ((aJ (pre ++ [g]) : Nat) : Int), ()) := hlo2
        rw [hlo3]
        simp only [Option.bind_some]
        rw [if_pos (by omega)]
        have hw : IntKind.wrap .i64 (0 + ((ig (aJ (pre ++ [g])) x).length : Int)) = ((ig (aJ (pre ++ [g])) x).length : Int) := by rw [aO (by omega) (by omega)]; omega
        rw [hw]
        rfl
      · rw [if_pos (by simpa using c), if_neg c]
    · intro σ1 g1
      unfold f59
      simp only [Option.isNone_some, Bool.false_eq_true, if_false, e55, e97, q2, hlo, Option.bind_eq_bind, Option.bind_some]
      rw [if_neg (by simp; omega), if_pos (by simpa using hfresh), g1]
      simp only [Option.bind_some]
      rw [if_pos (by simp)]
  · obtain ⟨e, σ2, B, g2, r2, a2, v2, k3, k4, o⟩ := WC h.dv h.ok h.good hd h.dl hx
    have hnx : aJ (pre ++ [g]) = sgN g := iU pre g
    have l2 := h.lg.same r2.oth
    have hlo2 := l2.lo
    have q2' : σ2.ae[j]? = some ((g.1 : Int), g.2, ((sgB g).length : Int), ()) := by
      obtain ⟨jp', j', e', q3, q4⟩ := l2.split
      rw [ej] at e'
      obtain ⟨_, e''⟩ := List.append_inj' e' rfl
      simp only [List.cons.injEq, and_true] at e''
      rw [e'']; exact q4
    have hrun : f59 (some l) x σ = some (if e = 0 then (((aJ (pre ++ [g]) : Int), 0), σ2.ax j ((g.1 : Int), g.2 ++ [x], ((sgB (g.1, g.2 ++ [x])).length : Int), ())) else ((0, e), σ2)) := by
      unfold f59
      simp only [Option.isNone_some, Bool.false_eq_true, if_false, e55, e97, q2, hlo, Option.bind_eq_bind, Option.bind_some]
      rw [if_neg (by simp; omega), if_neg (by simpa using hfresh), Tu (by unfold OkN; omega) hx, O0 h.lg q2 htop]
      simp only [Option.bind_some]
      rw [hnx, g2]
      simp only [Option.bind_some]
      by_cases c : e = 0
      · subst c
        rw [if_neg (by simp), if_pos rfl, q2']
        simp only [Option.bind_some]
        unfold sgN at htg
        rw [if_pos (by omega), if_neg (by simpa using hfresh), Ep]
        simp only [Option.bind_some]
        have hsz : ((sgB (g.1, g.2 ++ [x])).length : Int) = ((sgB g).length : Int) + ((ig (sgN g) x).length : Int) := by
          unfold sgB
          rw [zl, List.length_append]
          simp only [gB, List.append_nil]
          unfold sgN
          push_cast; rfl
        rw [hnx] at hrl
        have hw : IntKind.wrap .i64 (((sgB g).length : Int) + ((ig (sgN g) x).length : Int)) = ((sgB (g.1, g.2 ++ [x])).length : Int) := by rw [hsz, aO (by omega) (by omega)]
        rw [hw]
      · rw [if_pos (by simpa using c), if_neg c]
    have hmore : More (pre ++ [g]) x (pre ++ [(g.1, g.2 ++ [x])]) := .same
    rcases o with ⟨rfl, o1, o2⟩ | ⟨rfl, o1, o2, o2x⟩ | ⟨rfl, o1, o2, o3⟩
    · rw [if_pos rfl] at hrun
      refine ⟨_, _, _, B, js, _, safe, s, hrun, r2.fw.trans (Fw.of rfl rfl rfl), a2, v2, .inl ⟨rfl, rfl, o1, hmore, zS h, ?_, k3.same rfl rfl, k4, o2, hmore.good h.good hx hn, by have := hmore.len.1; omega, ?_⟩, Nat.le_refl _⟩
      · rw [ej] at l2 ⊢
        exact l2.more
      · rw [h.sf, mO, mO]
    · rw [if_neg (by decide)] at hrun
      exact ⟨_, _, _, B, js, _, safe, s, hrun, r2.fw, a2, v2, .inr (.inl ⟨rfl, o1, rfl, o2x, l2, k3, k4, o2, h.good, h.len, h.sf⟩), Nat.le_refl _⟩
    · rw [if_neg (by decide)] at hrun
      exact ⟨_, _, _, B, js, _, safe, s, hrun, r2.fw, a2, v2, .inr (.inr ⟨rfl, o1, o2, .inr hmore, Tn l2, by rw [h.sf, mO, mO]; exact Nat.le_refl _, k3, k4, o3⟩), Nat.le_refl _⟩

theorem abC (h : WS σ l d n0 most A js segs safe s) (hd : kD A = false) {x : List UInt8} (hx : OkR x) (hn : aJ segs + 1 ≤ 1000000) (hln : segs.length ≤ 800) (hmo : 1 ≤ most) :
    ∃ v e σ' B js' segs' safe' s', Oj σ l d n0 most A js segs safe s x v e σ' B js' segs' safe' s' := by
  rcases List.eq_nil_or_concat segs with rfl | ⟨pre, g, rfl⟩
  · exact Yd h hd hx
  · rw [List.concat_eq_append] at *
    exact Ye h hd hx hn hln hmo

end
end Go.Proofs.YtbnmhjobnepajaaGreat.M


namespace Go.Proofs.YtbnmhjobnepajaaGreat.M

noncomputable def Sub (R : List (List UInt8)) (g : Sg) : Prop := ∃ a c, R = a ++ g.2 ++ c ∧ a.length = g.1

theorem Sub.get {R : List (List UInt8)} {g : Sg} (h : Sub R g) {i : Nat} (h1 : g.1 ≤ i) (h2 : i < sgN g) : R[i]? = g.2[i - g.1]? := by
  obtain ⟨a, c, rfl, e⟩ := h
  unfold sgN at h2
  rw [List.append_assoc, List.getElem?_append_right (by omega), e, List.getElem?_append_left (by omega)]

theorem Sub.app {R : List (List UInt8)} {g : Sg} (h : Sub R g) (x : List UInt8) : Sub (R ++ [x]) g := by
  obtain ⟨a, c, rfl, e⟩ := h
  exact ⟨a, c ++ [x], by simp, e⟩

theorem Sub.more {R : List (List UInt8)} {segs segs' : List Sg} {x : List UInt8} (h : More segs x segs') (hR : ∀ g ∈ segs, Sub R g) (hn : aJ segs = R.length) : ∀ g ∈ segs', Sub (R ++ [x]) g := by
  cases h with
  | fresh h =>
    intro g hg
    rcases List.mem_append.1 hg with hg | hg
    · exact (hR g hg).app x
    · simp only [List.mem_cons, List.not_mem_nil, or_false] at hg
      subst hg
      exact ⟨R, [], by simp, hn.symm⟩
  | @same pre g0 x =>
    intro g hg
    rcases List.mem_append.1 hg with hg | hg
    · exact (hR g (List.mem_append.2 (.inl hg))).app x
    · simp only [List.mem_cons, List.not_mem_nil, or_false] at hg
      subst hg
      have h0 := hR g0 (by simp)
      rw [iU] at hn
      obtain ⟨a, c, e1, e2⟩ := h0
      have hc : c = [] := by
        have := congrArg List.length e1
        unfold sgN at hn
        simp only [List.length_append] at this
        exact List.eq_nil_of_length_eq_zero (by omega)
      subst hc
      exact ⟨a, [], by rw [e1]; simp, e2⟩

theorem Chn.adj : ∀ {segs : List Sg} {e : Option Nat}, Chn e segs → ∀ (k : Nat) (h : k + 1 < segs.length), (segs[k + 1]'h).1 = sgN (segs[k]'(by omega))
  | [], _, _, k, h => by simp at h
  | g :: [], _, _, k, h => by simp at h
  | g :: b :: r, e, hc, 0, h => by
    obtain ⟨h1, h2, h3⟩ := hc
    exact h3.1 _ rfl
  | g :: b :: r, e, hc, k + 1, h => by
    obtain ⟨h1, h2, h3⟩ := hc
    have := Chn.adj h3 k (by simpa using h)
    simpa using this

section
variable {σ : St} {l d n0 : Nat} {most : Int} {js : List Nat} {segs : List Sg} {safe s : Nat} {A : AD} {R : List (List UInt8)}

theorem Yc (h : LG σ l d most js segs safe) (hg : Good segs) (hlen : segs.length ≤ 1000) {i : Nat} (h0 : Bg segs ≤ i) (hne : segs ≠ []) : ∀ (k : Nat) (hk : k < segs.length), (∀ m (hm : m < segs.length), k < m → i < (segs[m]'hm).1) →
    ∃ z, ∃ hz : z < segs.length, yu (some l) (i : Int) σ (k : Int) = some ((z : Nat) : Int) ∧ (segs[z]'hz).1 ≤ i ∧ ∀ m (hm : m < segs.length), z < m → i < (segs[m]'hm).1 := by
  have hlo := h.lo
  have hjl := cO.len h.lie
  intro k
  induction k with
  | zero =>
    intro hk hm
    have hL := cO.nth h.lie 0 (by omega) hk
    have hf : (segs[0]'hk).1 ≤ i := by
      cases segs with
      | nil => exact absurd rfl hne
      | cons a r => exact h0
    refine ⟨0, hk, ?_, hf, hm⟩
    rw [yu]
    have hx : ix (js.map some) ((0 : Nat) : Int) = some (some (js[0]'(by omega))) := by
      rw [oC (by simp; omega)]; simp
    simp only [hlo, Option.bind_eq_bind, Option.bind_some]
    rw [hx]
    simp only [Option.bind_some, hL]
    rw [if_neg (by simp; omega)]
  | succ k ih =>
    intro hk hm
    have hL := cO.nth h.lie (k + 1) (by omega) hk
    rw [yu]
    have hx : ix (js.map some) (((k + 1 : Nat) : Nat) : Int) = some (some (js[k + 1]'(by omega))) := by
      rw [oC (by simp; omega)]; simp
    simp only [hlo, Option.bind_eq_bind, Option.bind_some]
    rw [hx]
    simp only [Option.bind_some, hL]
    by_cases c : (segs[k + 1]'hk).1 ≤ i
    · rw [if_neg (by simp; omega)]
      exact ⟨k + 1, hk, rfl, c, hm⟩
    · rw [if_pos (by simp; omega)]
      have hw : IntKind.wrap .i64 (((k + 1 : Nat) : Int) - 1) = (k : Int) := by rw [aO (by omega) (by omega)]; omega
      rw [hw]
      refine ih (by omega) (fun m hm2 hlt => ?_)
      by_cases e : m = k + 1
      · subst e; omega
      · exact hm m hm2 (by omega)

theorem abB (h : LG σ l d most js segs safe) (hg : Good segs) (hlen : segs.length ≤ 1000) (hR : ∀ g ∈ segs, Sub R g) {i : Nat} (h1 : Bg segs ≤ i) (h2 : i < aJ segs) : ∃ y, R[i]? = some y ∧ f58 (some l) (i : Int) σ = some (y, 0) := by
  have hne : segs ≠ [] := by rintro rfl; simp [aJ] at h2
  have hpos : 0 < segs.length := List.length_pos_iff.2 hne
  have hjl := cO.len h.lie
  have hlo := h.lo
  obtain ⟨z, hz, e1, e2, e3⟩ := Yc h hg hlen h1 hne (segs.length - 1) (by omega) (fun m hm hlt => by omega)
  have hlt : i < sgN (segs[z]'hz) := by
    by_cases c : z + 1 < segs.length
    · rw [← hg.chain.adj z c]
      exact e3 (z + 1) c (by omega)
    · rcases List.eq_nil_or_concat segs with h0 | ⟨pre, g, h0⟩
      · exact absurd h0 hne
      · rw [List.concat_eq_append] at h0
        subst h0
        rw [iU] at h2
        have hz2 : z = pre.length := by simp at hz c; omega
        subst hz2
        simpa using h2
  have hS := hR (segs[z]'hz) (List.getElem_mem hz)
  have hget := hS.get e2 hlt
  have hidx : i - (segs[z]'hz).1 < (segs[z]'hz).2.length := by unfold sgN at hlt; omega
  rw [List.getElem?_eq_getElem hidx] at hget
  refine ⟨_, hget, ?_⟩
  have hL := cO.nth h.lie z (by omega) hz
  have ht := hg.top _ (List.getElem_mem hz)
  have hnx := QZ hg
  have hx : ix (js.map some) ((z : Nat) : Int) = some (some (js[z]'(by omega))) := by
    rw [oC (by simp; omega)]; simp
  have hw1 : IntKind.wrap .i64 ((((js.map some).length : Nat) : Int) - 1) = ((segs.length - 1 : Nat) : Int) := by
    rw [List.length_map, hjl, aO (by omega) (by omega)]; omega
  have hw2 : IntKind.wrap .i64 ((i : Int) - ((segs[z]'hz).1 : Int)) = ((i - (segs[z]'hz).1 : Nat) : Int) := by rw [aO (by omega) (by omega)]; omega
  unfold f58
  simp only [Option.isNone_some, Bool.false_eq_true, if_false, Yb h, Bf h hg (by omega), hlo, Option.bind_eq_bind, Option.bind_some]
  rw [if_neg (by simp; omega), if_neg (by simp; omega), hw1, e1]
  simp only [Option.bind_some]
  rw [hx]
  simp only [Option.bind_some, hL]
  rw [hw2, oC hidx]
  rfl

noncomputable def Ea (f : FR) (keep : List Int) : FR := (f.1, f.2.1 ++ f.2.2.1.take (pM keep f.2.2.1.length), [], ())

theorem zu : ∀ (L : List FR) (keep : List Int), (∀ f ∈ L, f.2.2.1 = []) → jA L keep = L
  | [], _, _ => rfl
  | f :: r, keep, h => by
    have he := h f List.mem_cons_self
    unfold jA
    have e : ((f.1, f.2.1, [], ()) : FR) = f := by rw [← he]
    have hm : f.2.2.1.isEmpty = true := by rw [he]; rfl
    rw [hm, cond_true, e, zu r keep (fun x hx => h x (List.mem_cons_of_mem _ hx))]

theorem Jy : ∀ (a : List FR) (f : FR) (b : List FR) (keep : List Int), (∀ x ∈ a, x.2.2.1 = []) → (∀ x ∈ b, x.2.2.1 = []) → jA (a ++ f :: b) keep = a ++ Ea f keep :: b
  | [], f, b, keep, ha, hb => by
    rw [List.nil_append, List.nil_append]
    unfold jA
    cases hm : f.2.2.1 with
    | nil =>
      rw [List.isEmpty_nil, cond_true, zu b keep hb]
      unfold Ea
      rw [hm]; simp
    | cons c t =>
      rw [List.isEmpty_cons, cond_false, zu b keep.tail hb]
      unfold Ea
      rw [hm]
  | y :: a, f, b, keep, ha, hb => by
    have he := ha y List.mem_cons_self
    have ih := Jy a f b keep (fun x hx => ha x (List.mem_cons_of_mem _ hx)) hb
    rw [List.cons_append, List.cons_append]
    unfold jA
    have e : ((y.1, y.2.1, [], ()) : FR) = y := by rw [← he]
    have hm : y.2.2.1.isEmpty = true := by rw [he]; rfl
    rw [hm, cond_true, e, ih]

theorem SV {L : List FR} {pre : List Sg} {f : FR} (h : L.Perm (pre.map lgA ++ [f])) (keep : List Int) : (jA L keep).Perm (pre.map lgA ++ [Ea f keep]) := by
  have hm : f ∈ L := h.mem_iff.2 (by simp)
  obtain ⟨a, b, rfl⟩ := List.append_of_mem hm
  have hp : (a ++ b).Perm (pre.map lgA) := by
    have h1 : (f :: (a ++ b)).Perm (f :: pre.map lgA) := (List.perm_middle.symm.trans h).trans (List.perm_append_comm (l₂ := [f]))
    exact List.Perm.cons_inv h1
  have hall : ∀ x ∈ a ++ b, x.2.2.1 = [] := by
    intro x hx
    obtain ⟨g, hg, rfl⟩ := List.mem_map.1 (hp.mem_iff.1 hx)
    rfl
  rw [Jy a f b keep (fun x hx => hall x (List.mem_append.2 (.inl hx))) (fun x hx => hall x (List.mem_append.2 (.inr hx)))]
  refine List.perm_middle.trans ?_
  exact (List.Perm.cons _ hp).trans (List.perm_append_comm (l₁ := [Ea f keep]))

theorem SQ {g : Sg} (hx : ∀ x ∈ g.2, OkR x) (hs : s ≤ g.2.length) (keep : List Int) : ∃ m t, m ≤ g.2.length - s ∧ (gB (g.1 + s) (g.2.drop s)).take (pM keep (gB (g.1 + s) (g.2.drop s)).length) = gB (g.1 + s) ((g.2.drop s).take m) ++ t ∧ Ea (lgF g s) keep = tN (g.1, g.2.take (s + m)) t ∧ ED (sgN (g.1, g.2.take (s + m))) t := by
  obtain ⟨m, t, h1, h2, h3⟩ := NW (g.1 + s) (g.2.drop s) (pM keep (gB (g.1 + s) (g.2.drop s)).length) (fun x hxx => hx x (List.mem_of_mem_drop hxx))
  rw [List.length_drop] at h1
  refine ⟨m, t, h1, h2, ?_, ?_⟩
  · unfold Ea lgF tN
    simp only []
    rw [h2]
    have e : sgB (g.1, g.2.take (s + m)) = gB g.1 (g.2.take s) ++ gB (g.1 + s) ((g.2.drop s).take m) := by
      unfold sgB
      simp only []
      rw [List.take_add, zl]
      have : (g.2.take s).length = s := by rw [List.length_take]; omega
      rw [this]
    rw [e, List.append_assoc]
  · have : sgN (g.1, g.2.take (s + m)) = g.1 + s + m := by
      unfold sgN
      simp only [List.length_take]; omega
    rw [this]; exact h3

theorem Good.cut {pre : List Sg} {g : Sg} (h : Good (pre ++ [g])) (m : Nat) : Good (pre ++ [(g.1, g.2.take m)]) := by
  refine ⟨h.chain.last rfl, ?_, ?_⟩
  · intro a ha
    rcases List.mem_append.1 ha with ha | ha
    · exact h.recs a (List.mem_append.2 (.inl ha))
    · simp only [List.mem_cons, List.not_mem_nil, or_false] at ha
      subst ha
      exact fun x hx => h.recs g (by simp) x (List.mem_of_mem_take hx)
  · intro a ha
    rcases List.mem_append.1 ha with ha | ha
    · exact h.top a (List.mem_append.2 (.inl ha))
    · simp only [List.mem_cons, List.not_mem_nil, or_false] at ha
      subst ha
      have := h.top g (by simp)
      unfold sgN at *
      simp only [List.length_take]; omega

structure CSW (σ : St) (d n0 : Nat) (A : AD) (segs : List Sg) (s : Nat) : Prop where
  dv : DV σ d n0 A
  ok : OkA A
  dl : DLs A.2.1 segs s
  good : Good segs
  len : segs.length ≤ 900

theorem SS (h : CSW σ d n0 A segs s) (keep : List Int) (h1 : 64 ≤ most) (h2 : most ≤ 65536) :
    ∃ σ1 σ2 B js' segs', f27 (some d) keep σ = some (0, σ1) ∧ f53 (some d) nmL most σ1 = some ((some σ1.aj.length, 0), σ2) ∧ Fw σ σ2 d n0 ∧ ExW σ σ2 σ1.aj.length ∧ σ1.aj.length = σ.aj.length ∧ B.1 = A.1 ∧ nO B = 0 ∧ kD B = false ∧
      WS σ2 σ1.aj.length d n0 most B js' segs' (aJ segs') (jP segs') ∧ DV σ1 d n0 (AX A keep) ∧
      ((segs = [] ∧ segs' = []) ∨ ∃ pre g m, segs = pre ++ [g] ∧ segs' = pre ++ [(g.1, g.2.take (s + m))] ∧ m ≤ g.2.length - s ∧ s ≤ g.2.length ∧
        ∃ t, (gB (g.1 + s) (g.2.drop s)).take (pM keep (gB (g.1 + s) (g.2.drop s)).length) = gB (g.1 + s) ((g.2.drop s).take m) ++ t) := by
  obtain ⟨σ1, g1, g2, g3⟩ := abt h.dv h.ok keep
  have hok := h.ok.XC keep
  have e128 : σ1.aj = σ.aj := congrArg (fun x => x.2.1) g3.oth
  rcases List.eq_nil_or_concat segs with h0 | ⟨pre, g, h0⟩
  · have hdl := h.dl
    rw [h0] at hdl
    have hL : (AX A keep).2.1 = [] := by
      show jA A.2.1 keep = []
      rw [(hdl.inv0).1]; rfl
    obtain ⟨σ2, e1, e2, e2x, e3, e4⟩ := NJ g2 hok rfl hL h1 h2
    refine ⟨σ1, σ2, AX A keep, [], [], g1, e1, g3.fw.trans e2, g3.ex.trans e2x, by rw [e128], rfl, rfl, rfl, ⟨e4, e3, hok, by rw [hL]; exact .none rfl, ⟨trivial, by simp, by simp⟩, by simp, rfl⟩, g2, .inl ⟨h0, rfl⟩⟩
  · rw [List.concat_eq_append] at h0
    have hdl := h.dl
    have hgood := h.good
    have hlen := h.len
    rw [h0] at hdl hgood hlen
    obtain ⟨hp, hs⟩ := hdl.inv
    obtain ⟨m, t, m1, m2, m3, m4⟩ := SQ (g := g) (s := s) (hgood.recs g (by simp)) hs keep
    have hcp := SV hp keep
    rw [m3] at hcp
    have hgc := hgood.cut (s + m)
    obtain ⟨σ2, B, js', e1, e2, e2x, e3, e4, e5, e6, e7, e8, e9⟩ := Wu (most := most) g2 hok rfl rfl hgc (by simp at hlen ⊢; omega) m4 hcp h1 h2
    refine ⟨σ1, σ2, B, js', _, g1, e1, g3.fw.trans e2, g3.ex.trans e2x, by rw [e128], e3, e4, e5, ⟨e8, e6, e7, e9, hgc, by simp at hlen ⊢; omega, (zQ _).symm⟩, g2, .inr ⟨pre, g, m, h0, rfl, m1, hs, t, m2⟩⟩
end
end Go.Proofs.YtbnmhjobnepajaaGreat.M


namespace Go.Proofs.YtbnmhjobnepajaaGreat.M

section
variable {σ : St} {l d n0 : Nat} {most : Int} {js : List Nat} {segs : List Sg} {safe s : Nat} {A : AD} {R : List (List UInt8)}

theorem More.sz {segs' : List Sg} {x : List UInt8} (h : More segs x segs') : szS segs' = szS segs + (24 + x.length) := by
  cases h with
  | fresh h => simp [szS, szR]
  | same => simp [szS, szR]; omega

theorem More.first {segs' : List Sg} {x : List UInt8} (h : More segs x segs') : Bg segs' = Bg segs := by
  cases h with
  | @fresh segs x h =>
    cases segs with
    | nil => rfl
    | cons a r => rfl
  | @same pre g x =>
    cases pre with
    | nil => rfl
    | cons a r => rfl

theorem WS.new (hD : DV σ d n0 A) (hA : OkA A) (hL : A.2.1 = []) (hG : LG σ l d most [] [] 0) : WS σ l d n0 most A [] [] 0 0 :=
  ⟨hG, hD, hA, by rw [hL]; exact .none rfl, ⟨trivial, by simp, by simp⟩, by simp, rfl⟩

end
end Go.Proofs.YtbnmhjobnepajaaGreat.M


namespace Go.Proofs.YtbnmhjobnepajaaGreat.M

abbrev QuT : Type := Int × Option Nat × List kX × List VdT × Unit
noncomputable def BM (σ : St) (q : Nat) (x : QuT) : St := σ.bP (σ.ah.set q x)
theorem Q9 {σ : St} {q : Nat} {y x : QuT} (h : σ.ah[q]? = some y) : (BM σ q x).ah[q]? = some x := by
  have := (List.getElem?_eq_some_iff.1 h).1
  unfold BM St.bP
  simp [this]
noncomputable def wW (v w : Nat) (l : List VdT) : Bool := yE (fun i (x : VdT) => decide (x.1 = ((v + 1 + i : Nat) : Int))) 0 l && (decide (0 < l.length) && decide (l.length ≤ w))

section
variable {σ : St} {q : Nat} {a : Int} {lo : Option Nat} {W : List kX} {V : List VdT}
theorem PZ (h : σ.ah[q]? = some (a, lo, W, V, ())) (hv : V.length ≤ 1000000) : bH (some q) σ = some ((V.length + 1 : Nat) : Int) := by
  unfold bH
  rw [if_neg (by simp), Option.bind_some, h]
  simp only [Option.bind_some]
  rw [fJ (by omega)]
theorem Uk (h : σ.ah[q]? = some (a, lo, W, V, ())) (hv : V.length ≤ 1000000) (hw : W.length ≤ 1000000) : dB (some q) σ = some ((V.length + W.length + 1 : Nat) : Int) := by
  unfold dB
  simp only [Option.isNone_some, Bool.false_eq_true, if_false, Option.bind_some, h]
  have e : IntKind.wrap .i64 ((V.length : Int) + (W.length : Int)) = ((V.length + W.length : Nat) : Int) := by rw [aO (by omega) (by omega)]; omega
  rw [e, fJ (by omega)]
theorem UT (h : σ.ah[q]? = some (a, lo, W, V, ())) (hv : V.length ≤ 1000000) (hw : W.length ≤ 1000000) {l : List VdT} (hl : l.length ≤ 2000000) : jd (some q) l σ = some (wW V.length W.length l) := by
  unfold jd wW
  rw [SK (l := l) (fun i (x : VdT) => decide (x.1 = ((V.length + 1 + i : Nat) : Int))) (e := false) (fun i hi => ?_) (by unfold lK; simp)]
  · cases hx : yE (fun i (x : VdT) => decide (x.1 = ((V.length + 1 + i : Nat) : Int))) 0 l with
    | false => rfl
    | true =>
      simp only [if_true, Option.bind_some, ku, Bool.true_and]
      by_cases h0 : 0 < l.length
      · have h0' : ((l.length : Int) > 0) := by omega
        simp only [h0', h0, decide_true, if_true, Option.bind_some, h, Bool.true_and]
        congr 1
        exact decide_eq_decide.2 (by omega)
      · have h0' : ¬ ((l.length : Int) > 0) := by omega
        simp only [h0', h0, decide_false, Bool.false_eq_true, if_false, Option.bind_some, Bool.false_and]
  · unfold lK
    have e : IntKind.wrap .i64 (((V.length + 1 : Nat) : Int) + (i : Int)) = ((V.length + 1 + i : Nat) : Int) := by rw [aO (by omega) (by omega)]; omega
    simp only [fJ (i := i) (by omega), oC hi, Option.bind_some, PZ h hv, e]
    rw [if_pos (by simp; omega)]
    by_cases hc : l[i].1 = ((V.length + 1 + i : Nat) : Int)
    · rw [if_neg (by simpa using hc), if_pos (by simpa using hc)]
    · rw [if_pos (by simpa using hc), if_neg (by simpa using hc)]
theorem Vj (h : σ.ah[q]? = some (a, lo, W, V, ())) (hv : V.length ≤ 1000000) (hw : W.length ≤ 1000000) {l : List VdT} (hl : l.length ≤ W.length) : je (some q) l σ = some ((), BM σ q (a, lo, W.drop l.length, V ++ l, ())) := by
  have hq := (List.getElem?_eq_some_iff.1 h).1
  unfold je
  simp only [Option.bind_some, h]
  rw [if_pos (by omega)]
  simp only [and_self, if_true, Option.bind_some, List.getElem?_set_self hq]
  rw [if_pos (by omega), if_pos (by simp; omega)]
  rw [show ((l.length : Int)).toNat = l.length by omega]
  unfold BM St.bP
  simp
end
end Go.Proofs.YtbnmhjobnepajaaGreat.M


namespace Go.Proofs.YtbnmhjobnepajaaGreat.M

noncomputable def recC (c : kX) : List UInt8 := 99 :: vw c
noncomputable def wC (l : List VdT) : List UInt8 := 118 :: qQ l
inductive tX (a : Int) : List (List UInt8) → List kX → List VdT → Prop where
  | nil : tX a [] [] []
  | cmd {R : List (List UInt8)} {C : List kX} {V : List VdT} {c : kX} : tX a R C V → mV c = true → c.1 = a → c.2.1 = ((C.length + 1 : Nat) : Int) → tX a (R ++ [recC c]) (C ++ [c]) V
  | vds {R : List (List UInt8)} {C : List kX} {V l : List VdT} : tX a R C V → lZ l = true → wW V.length (C.length - V.length) l = true → tX a (R ++ [wC l]) C (V ++ l)

theorem CB {v w : Nat} {l : List VdT} (h : wW v w l = true) : 0 < l.length ∧ l.length ≤ w := by
  unfold wW at h
  simp only [Bool.and_eq_true, decide_eq_true_eq] at h
  exact h.2
theorem tX.len {a : Int} {R : List (List UInt8)} {C : List kX} {V : List VdT} (h : tX a R C V) : C.length ≤ R.length ∧ V.length ≤ C.length := by
  induction h with
  | nil => simp
  | cmd _ _ _ _ ih => simp only [List.length_append, List.length_cons, List.length_nil]; omega
  | vds _ _ hf ih => have := CB hf; simp only [List.length_append, List.length_cons, List.length_nil]; omega
theorem tX.each {a : Int} {R : List (List UInt8)} {C : List kX} {V : List VdT} (h : tX a R C V) : ∀ c ∈ C, mV c = true ∧ c.1 = a := by
  induction h with
  | nil => simp
  | cmd _ h1 h2 _ ih =>
    intro c hc
    rcases List.mem_append.1 hc with hc | hc
    · exact ih c hc
    · simp only [List.mem_singleton] at hc; subst hc; exact ⟨h1, h2⟩
  | vds _ _ _ ih => exact ih
section
variable {σ : St} {q : Nat} {a : Int} {lo : Option Nat} {W : List kX} {V : List VdT}
theorem Xx (h : σ.ah[q]? = some (a, lo, W, V, ())) (hv : V.length ≤ 1000000) (hw : W.length ≤ 1000000) {c : kX} (hc : mV c = true) (h1 : c.1 = a) (h2 : c.2.1 = ((V.length + W.length + 1 : Nat) : Int)) :
    lF (some q) (vw c) σ = some (true, BM (rdr σ (vw c, ((vw c).length : Int), 0, ())) q (a, lo, W ++ [c], V, ())) := by
  unfold lF
  rw [WY hc]
  have h' : (rdr σ (vw c, ((vw c).length : Int), 0, ())).ah[q]? = some (a, lo, W, V, ()) := h
  simp only [Option.bind_some, h', Uk h' hv hw, Bool.not_true, Bool.not_false, if_true]
  rw [if_pos (by simp [h1]), if_neg (by simp [h2]), if_pos (by omega)]
  simp only [and_self, if_true]
  rfl
theorem Zv (h : σ.ah[q]? = some (a, lo, W, V, ())) (hv : V.length ≤ 1000000) (hw : W.length ≤ 1000000) {l : List VdT} (hc : lZ l = true) (hf : wW V.length W.length l = true) :
    iZ (some q) (qQ l) σ = some (true, BM (rdr σ (qQ l, ((qQ l).length : Int), 0, ())) q (a, lo, W.drop l.length, V ++ l, ())) := by
  unfold iZ
  rw [WZ hc]
  have h' : (rdr σ (qQ l, ((qQ l).length : Int), 0, ())).ah[q]? = some (a, lo, W, V, ()) := h
  obtain ⟨f1, f2⟩ := CB hf
  simp only [Option.bind_some, Bool.not_true, Bool.not_false, if_true, UT h' hv hw (l := l) (by omega), hf, Bool.or_self, Bool.false_eq_true, if_false, Vj h' hv hw f2]
theorem aaE {ci : Nat} (hci : σ.bu[ci]? = some (some q, ())) (h : σ.ah[q]? = some (a, lo, W, V, ())) (hv : V.length ≤ 1000000) (hw : W.length ≤ 1000000) {c : kX} (hc : mV c = true) (h1 : c.1 = a) (h2 : c.2.1 = ((V.length + W.length + 1 : Nat) : Int)) :
    iQ (recC c) ci σ = some (true, BM (rdr σ (vw c, ((vw c).length : Int), 0, ())) q (a, lo, W ++ [c], V, ())) := by
  have hb : btS (recC c) 0 = 99 := by
    rw [show (0 : Int) = ((0 : Nat) : Int) from rfl, AU (by simp [recC])]; rfl
  unfold iQ
  rw [if_neg (by simp [recC]), if_pos (by first | (simp [recC]; done) | (simp [recC]; omega)), hb, if_pos (by decide), hci]
  simp only [Option.bind_some]
  rw [if_pos (by first | (simp [recC]; done) | (simp [recC]; omega)), show (recC c).drop 1 = vw c from rfl, Xx h hv hw hc h1 h2]
  rfl
theorem aaF {ci : Nat} (hci : σ.bu[ci]? = some (some q, ())) (h : σ.ah[q]? = some (a, lo, W, V, ())) (hv : V.length ≤ 1000000) (hw : W.length ≤ 1000000) {l : List VdT} (hc : lZ l = true) (hf : wW V.length W.length l = true) :
    iQ (wC l) ci σ = some (true, BM (rdr σ (qQ l, ((qQ l).length : Int), 0, ())) q (a, lo, W.drop l.length, V ++ l, ())) := by
  have hb : btS (wC l) 0 = 118 := by
    rw [show (0 : Int) = ((0 : Nat) : Int) from rfl, AU (by simp [wC])]; rfl
  unfold iQ
  rw [if_neg (by simp [wC]), if_pos (by first | (simp [wC]; done) | (simp [wC]; omega)), hb, if_neg (by decide), if_pos (by first | (simp [wC]; done) | (simp [wC]; omega)), if_pos (by decide), hci]
  simp only [Option.bind_some]
  rw [if_pos (by first | (simp [wC]; done) | (simp [wC]; omega)), show (wC l).drop 1 = qQ l from rfl, Zv h hv hw hc hf]
  rfl
noncomputable def St.base (σ : St) : St := (σ.bg []).bP []
structure Rp (σ σ' : St) (q : Nat) (x : QuT) : Prop where
  q : σ'.ah = σ.ah.set q x
  o : σ'.base = σ.base
theorem Rp.refl {x : QuT} (h : σ.ah[q]? = some x) : Rp σ σ q x := ⟨by
  refine List.ext_getElem? fun n => ?_
  rw [List.getElem?_set]
  split
  · rename_i hn
    subst hn
    rw [if_pos (List.getElem?_eq_some_iff.1 h).1, h]
  · rfl, rfl⟩
theorem Rp.step {σ' : St} {x : QuT} (h : Rp σ σ' q x) (z : az jB) (y : QuT) : Rp σ (BM (rdr σ' z) q y) q y := by
  refine ⟨?_, h.o⟩
  show (σ'.ah).set q y = _
  rw [h.q]; simp
theorem Rp.get {σ' : St} {x y : QuT} (h : Rp σ σ' q x) (hq : σ.ah[q]? = some y) : σ'.ah[q]? = some x := by
  rw [h.q, List.getElem?_set_self (List.getElem?_eq_some_iff.1 hq).1]

theorem LG.same2 {l d : Nat} {most : Int} {js : List Nat} {segs : List Sg} {safe : Nat} (h : LG σ l d most js segs safe) {σ' : St} (h1 : σ'.aj = σ.aj) (h2 : σ'.ae = σ.ae) : LG σ' l d most js segs safe := by
  refine ⟨by rw [h1]; exact h.lo, h.nd, h.lie.TG (fun j _ g hg => ?_)⟩
  show σ'.ae[j]? = _
  rw [h2]
  exact hg
variable {l d : Nat} {most : Int} {js : List Nat} {segs : List Sg} {safe : Nat}
theorem replay {x0 : ((Option Nat) × Int) × St} {n : Nat} {Rall : List (List UInt8)} (hl : x0.1.1 = some l) (hci : σ.bu[x0.2.bu.length]? = some (some q, ())) (hq : σ.ah[q]? = some (a, lo, [], [], ())) (hG : LG σ l d most js segs safe) (hg : Good segs) (hlen : segs.length ≤ 1000) (hS : ∀ g ∈ segs, Sub Rall g) (hf : Bg segs = 0) (hn : aJ segs = Rall.length) (hN : n = Rall.length) (hR : Rall.length ≤ 100000) :
    ∀ {R : List (List UInt8)} {C : List kX} {V : List VdT}, tX a R C V → ∀ S, Rall = R ++ S → ∃ σ', bC (fM x0 (n : Int)) (0, σ) = bC (fM x0 (n : Int)) ((R.length : Int), σ') ∧ Rp σ σ' q (a, lo, C.drop V.length, V, ()) := by
  have step : ∀ {R : List (List UInt8)} {x : List UInt8} {S : List (List UInt8)} {σ1 σ2 : St} {y : QuT}, Rall = (R ++ [x]) ++ S → Rp σ σ1 q y → iQ x x0.2.bu.length σ1 = some (true, σ2) → bC (fM x0 (n : Int)) ((R.length : Int), σ1) = bC (fM x0 (n : Int)) (((R ++ [x]).length : Int), σ2) := by
    intro R x S σ1 σ2 y hr hp h
    have h1 : Rall[R.length]? = some x := by rw [hr, List.append_assoc, List.getElem?_append_right (Nat.le_refl _)]; simp
    have hlt : R.length < Rall.length := (List.getElem?_eq_some_iff.1 h1).1
    have hG1 : LG σ1 l d most js segs safe := hG.same2 (show σ1.base.aj = σ.base.aj by rw [hp.o]) (show σ1.base.ae = σ.base.ae by rw [hp.o])
    obtain ⟨z, z1, z2⟩ := abB hG1 hg hlen hS (i := R.length) (by omega) (by omega)
    rw [h1] at z1
    simp only [Option.some.injEq] at z1; subst z1
    rw [ng (y := (((R ++ [x]).length : Int), σ2))]
    unfold fM
    simp only [XZ, hl, z2, Option.bind_some, h, fJ (i := R.length) (by omega)]
    rw [if_pos (by simp; omega), if_neg (by simp)]
    simp
  intro R C V hP
  induction hP with
  | nil => exact fun S _ => ⟨σ, rfl, Rp.refl hq⟩
  | @cmd R C V c hP h1 h2 h3 ih =>
    intro S hr
    obtain ⟨σ1, e1, e2⟩ := ih ([recC c] ++ S) (by rw [hr]; simp)
    have hb := congrArg List.length hr
    simp only [List.length_append, List.length_cons, List.length_nil] at hb
    obtain ⟨b1, b2⟩ := hP.len
    have hw : (C.drop V.length).length = C.length - V.length := by simp
    have := aaE (σ := σ1) (W := C.drop V.length) (V := V) (ci := x0.2.bu.length) (show σ1.base.bu[x0.2.bu.length]? = _ by rw [e2.o]; exact hci) (e2.get hq) (by omega) (by omega) h1 h2 (by rw [h3]; omega)
    refine ⟨_, e1.trans (step hr e2 this), ?_⟩
    have h4 := e2.step (vw c, ((vw c).length : Int), 0, ()) (a, lo, C.drop V.length ++ [c], V, ())
    rw [List.drop_append_of_le_length b2]
    exact h4
  | @vds R C V m hP h1 h2 ih =>
    intro S hr
    obtain ⟨σ1, e1, e2⟩ := ih ([wC m] ++ S) (by rw [hr]; simp)
    have hb := congrArg List.length hr
    simp only [List.length_append, List.length_cons, List.length_nil] at hb
    obtain ⟨b1, b2⟩ := hP.len
    have hw : (C.drop V.length).length = C.length - V.length := by simp
    have := aaF (σ := σ1) (W := C.drop V.length) (V := V) (ci := x0.2.bu.length) (show σ1.base.bu[x0.2.bu.length]? = _ by rw [e2.o]; exact hci) (e2.get hq) (by omega) (by omega) h1 (by rw [hw]; exact h2)
    refine ⟨_, e1.trans (step hr e2 this), ?_⟩
    have h4 := e2.step (qQ m, ((qQ m).length : Int), 0, ()) (a, lo, (C.drop V.length).drop m.length, V ++ m, ())
    rw [List.length_append, ← List.drop_drop]
    exact h4
end
end Go.Proofs.YtbnmhjobnepajaaGreat.M


namespace Go.Proofs.YtbnmhjobnepajaaGreat.M

theorem Yg {p : Option Nat} {p1 : St → Option (Unit × St)} {σ σ' : St} {r : Int} (h : f72 p p1 σ = some (r, σ')) (hp : ∀ σ1 u σ2, p1 σ1 = some (u, σ2) → tV σ2 = tV σ1) : tV σ' = tV σ := by
  unfold f72 at h
  simp only [Option.bind_eq_bind, Option.bind_eq_some_iff] at h
  obtain ⟨i4, -, o5, -, h⟩ := h
  split at h
  · simp only [Option.bind_eq_some_iff] at h
    obtain ⟨i7, -, o8, -, i9, -, o10, -, i12, -, o13, -, h⟩ := h
    split at h
    · simp only [Option.bind_eq_some_iff, Option.some.injEq, Prod.mk.injEq] at h
      obtain ⟨i15, -, o16, -, -, rfl⟩ := h
      rfl
    · simp only [Option.bind_eq_some_iff, Option.some.injEq, Prod.mk.injEq] at h
      obtain ⟨⟨u, σ2⟩, h1, -, rfl⟩ := h
      exact (hp _ _ _ h1).trans rfl
  · simp only [Option.bind_eq_some_iff, Option.some.injEq, Prod.mk.injEq] at h
    obtain ⟨⟨u, σ2⟩, h1, -, rfl⟩ := h
    exact hp _ _ _ h1
theorem abG {σ1 : St} {u : Unit} {σ2 : St} (h : f73 σ1 = some (u, σ2)) : tV σ2 = tV σ1 := by
  unfold f73 at h
  simp only [Option.some.injEq, Prod.mk.injEq] at h
  rw [← h.2]
theorem QD {p0 : Option Nat} {z : (Option Nat) × St} {p2 : List UInt8} {σ σ' : St} {r : Int} (hz : tV z.2 = tV σ) (h : (z.1 >>= fun i42 => (z.2.ai[i42]?) >>= fun o43 => if o43.1.length + p2.length ≤ 9223372036854775807 then z.1 >>= fun i45 => (z.2.ai[i45]?) >>= fun o46 => f72 p0 f73 (z.2.aG i45 (o43.1 ++ p2, o46.2.1, ())) >>= fun r48 => some (r48.1, r48.2) else none) = some (r, σ')) : tV σ' = tV σ := by
  simp only [Option.bind_eq_bind, Option.bind_eq_some_iff] at h
  obtain ⟨i, -, o, -, h⟩ := h
  split at h
  · simp only [Option.bind_eq_some_iff, Option.some.injEq, Prod.mk.injEq] at h
    obtain ⟨j, -, o2, -, ⟨r1, σ1⟩, h1, -, rfl⟩ := h
    exact (Yg h1 fun _ _ _ => abG).trans hz
  · simp at h
theorem Tm {p0 : Option Nat} {p1 p2 : List UInt8} {σ σ' : St} {r : Int} (h : f24 p0 p1 p2 σ = some (r, σ')) : tV σ' = tV σ := by
  unfold f24 at h
  obtain ⟨r4, -, h⟩ := Option.bind_eq_some_iff.1 h
  split at h
  · simp only [Option.some.injEq, Prod.mk.injEq] at h; rw [← h.2]
  obtain ⟨r9, -, h⟩ := Option.bind_eq_some_iff.1 h
  split at h
  · simp only [Option.some.injEq, Prod.mk.injEq] at h; rw [← h.2]
  obtain ⟨i, -, h⟩ := Option.bind_eq_some_iff.1 h
  obtain ⟨o, -, h⟩ := Option.bind_eq_some_iff.1 h
  obtain ⟨z, -, h⟩ := Option.bind_eq_some_iff.1 h
  split at h
  · obtain ⟨i, -, h⟩ := Option.bind_eq_some_iff.1 h
    obtain ⟨o, -, h⟩ := Option.bind_eq_some_iff.1 h
    split at h
    · simp only [Option.some.injEq, Prod.mk.injEq] at h; rw [← h.2]
    split at h
    · simp only [Option.some.injEq, Prod.mk.injEq] at h; rw [← h.2]
    obtain ⟨i, -, h⟩ := Option.bind_eq_some_iff.1 h
    obtain ⟨o, -, h⟩ := Option.bind_eq_some_iff.1 h
    obtain ⟨o, -, h⟩ := Option.bind_eq_some_iff.1 h
    split at h
    · simp only [Option.some.injEq, Prod.mk.injEq] at h; rw [← h.2]
    obtain ⟨z, hz, h⟩ := Option.bind_eq_some_iff.1 h
    refine QD ?_ h
    obtain ⟨i, -, hz⟩ := Option.bind_eq_some_iff.1 hz
    obtain ⟨o, -, hz⟩ := Option.bind_eq_some_iff.1 hz
    simp only [Option.some.injEq] at hz; rw [← hz]; rfl
  · split at h
    · simp only [Option.some.injEq, Prod.mk.injEq] at h; rw [← h.2]
    obtain ⟨i, -, h⟩ := Option.bind_eq_some_iff.1 h
    obtain ⟨o, -, h⟩ := Option.bind_eq_some_iff.1 h
    obtain ⟨o, -, h⟩ := Option.bind_eq_some_iff.1 h
    split at h
    · simp only [Option.some.injEq, Prod.mk.injEq] at h; rw [← h.2]
    obtain ⟨z, hz, h⟩ := Option.bind_eq_some_iff.1 h
    refine QD ?_ h
    simp only [Option.some.injEq] at hz; rw [← hz]

structure Wx (σ σ' : St) (l : Nat) (js : List Nat) : Prop where
  lg : ∀ i, i ≠ l → σ'.aj[i]? = σ.aj[i]?
  ll : σ'.aj.length = σ.aj.length
  sg : ∀ j, j ∉ js → j < σ.ae.length → σ'.ae[j]? = σ.ae[j]?
  sl : σ.ae.length ≤ σ'.ae.length
noncomputable def sJ (σ : St) (l : Nat) (js : List Nat) : Prop := ∃ o : az dh, σ.aj[l]? = some o ∧ o.2.2.2.1 = js.map some
theorem Wx.refl (σ : St) (l : Nat) (js : List Nat) : Wx σ σ l js := ⟨fun _ _ => rfl, rfl, fun _ _ _ => rfl, Nat.le_refl _⟩
theorem Wx.of3 {σ σ' : St} {l : Nat} {js : List Nat} (h : tV σ' = tV σ) : Wx σ σ' l js := by
  have h1 : σ'.aj = σ.aj := congrArg (fun x => x.2.1) h
  have h2 : σ'.ae = σ.ae := congrArg (fun x => x.2.2) h
  exact ⟨fun _ _ => by rw [h1], by rw [h1], fun _ _ _ => by rw [h2], by rw [h2]; exact Nat.le_refl _⟩
theorem abH {c : Nat} {σ1 : St} {u : Unit} {σ2 : St} (h : f78 c σ1 = some (u, σ2)) : tV σ2 = tV σ1 := by
  unfold f78 at h
  simp only [Option.bind_eq_bind, Option.bind_eq_some_iff, Option.some.injEq, Prod.mk.injEq] at h
  obtain ⟨o1, -, i2, -, o3, -, i4, -, o5, -, -, rfl⟩ := h
  rfl
theorem aby {p0 : Option Nat} {p1 : List UInt8} {σ σ' : St} {r : Int} (h : f33 p0 p1 σ = some (r, σ')) : tV σ' = tV σ := by
  unfold f33 at h
  obtain ⟨r3, -, h⟩ := Option.bind_eq_some_iff.1 h
  split at h
  · simp only [Option.some.injEq, Prod.mk.injEq] at h; rw [← h.2]; rfl
  obtain ⟨⟨r8, σ8⟩, h8, h⟩ := Option.bind_eq_some_iff.1 h
  simp only [Option.some.injEq, Prod.mk.injEq] at h
  rw [← h.2]
  exact (Yg h8 fun _ _ _ => abH).trans rfl
theorem Rx {σ : St} {l : Nat} {js : List Nat} {o : az dh} {n : Int} (ho : σ.aj[l]? = some o) (hj : sJ σ l js) : Wx σ (σ.aZ l (o.1, o.2.1, o.2.2.1, o.2.2.2.1, n, ())) l js ∧ sJ (σ.aZ l (o.1, o.2.1, o.2.2.1, o.2.2.2.1, n, ())) l js := by
  refine ⟨⟨fun i hi => ?_, ?_, fun _ _ _ => rfl, Nat.le_refl _⟩, ?_⟩
  · show (σ.aj.set l _)[i]? = _
    rw [List.getElem?_set_ne (Ne.symm hi)]
  · show (σ.aj.set l _).length = _
    rw [List.length_set]
  · obtain ⟨o', h1, h2⟩ := hj
    rw [ho] at h1; simp only [Option.some.injEq] at h1; subst h1
    exact ⟨_, pI ho, h2⟩
theorem Wx.trans {σ σ' σ'' : St} {l : Nat} {js : List Nat} (h1 : Wx σ σ' l js) (h2 : Wx σ' σ'' l js) : Wx σ σ'' l js :=
  ⟨fun i hi => (h2.lg i hi).trans (h1.lg i hi), h2.ll.trans h1.ll, fun j hj hl => (h2.sg j hj (Nat.lt_of_lt_of_le hl h1.sl)).trans (h1.sg j hj hl), Nat.le_trans h1.sl h2.sl⟩
theorem sJ.of3 {σ σ' : St} {l : Nat} {js : List Nat} (h : sJ σ l js) (e : tV σ' = tV σ) : sJ σ' l js := by
  have h1 : σ'.aj = σ.aj := congrArg (fun x => x.2.1) e
  obtain ⟨o, a, b⟩ := h
  exact ⟨o, by rw [h1]; exact a, b⟩
theorem Tt {l : Nat} {js : List Nat} {σ σ' : St} {r : Int} (hj : sJ σ l js) (h : f61 (some l) σ = some (r, σ')) : Wx σ σ' l js ∧ sJ σ' l js ∧ σ'.ae = σ.ae := by
  unfold f61 at h
  rw [if_neg (by simp)] at h
  obtain ⟨r7, -, h⟩ := Option.bind_eq_some_iff.1 h
  split at h
  · simp only [Option.bind_eq_bind, Option.bind_some] at h
    obtain ⟨o11, ho, h⟩ := Option.bind_eq_some_iff.1 h
    obtain ⟨r12, -, h⟩ := Option.bind_eq_some_iff.1 h
    obtain ⟨⟨r13, σ1⟩, h13, h⟩ := Option.bind_eq_some_iff.1 h
    have e3 := aby h13
    have es : σ1.ae = σ.ae := congrArg (fun x => x.2.2) e3
    split at h
    · simp only [Option.some.injEq, Prod.mk.injEq] at h; rw [← h.2]; exact ⟨Wx.of3 e3, hj.of3 e3, es⟩
    obtain ⟨r17, -, h⟩ := Option.bind_eq_some_iff.1 h
    obtain ⟨o18, h18, h⟩ := Option.bind_eq_some_iff.1 h
    simp only [Option.some.injEq, Prod.mk.injEq] at h; rw [← h.2]
    obtain ⟨a, b⟩ := Rx (n := r17) h18 (hj.of3 e3)
    exact ⟨(Wx.of3 e3).trans a, b, es⟩
  · obtain ⟨r17, -, h⟩ := Option.bind_eq_some_iff.1 h
    simp only [Option.bind_eq_bind, Option.bind_some] at h
    obtain ⟨o18, h18, h⟩ := Option.bind_eq_some_iff.1 h
    simp only [Option.some.injEq, Prod.mk.injEq] at h; rw [← h.2]
    obtain ⟨a, b⟩ := Rx (n := r17) h18 hj
    exact ⟨a, b, rfl⟩

section
variable {σ σ' : St} {l : Nat} {js : List Nat}
theorem Wx.o3 {σ'' : St} (h : Wx σ σ' l js) (e : tV σ'' = tV σ') : Wx σ σ'' l js := h.trans (Wx.of3 e)
theorem Wx.add (h : Wx σ σ' l js) (x : az dN) : Wx σ (σ'.ay x) l js := by
  refine ⟨h.lg, h.ll, fun j hj hl => ?_, ?_⟩
  · show (σ'.ae ++ [x])[j]? = _
    rw [List.getElem?_append_left (Nat.lt_of_lt_of_le hl h.sl)]; exact h.sg j hj hl
  · show _ ≤ (σ'.ae ++ [x]).length
    have := h.sl
    rw [List.length_append]; omega
theorem Wx.seg (h : Wx σ σ' l js) {k : Nat} (hk : k ∈ js ∨ σ.ae.length ≤ k) (x : az dN) : Wx σ (σ'.ax k x) l js := by
  refine ⟨h.lg, h.ll, fun j hj hl => ?_, ?_⟩
  · show (σ'.ae.set k x)[j]? = _
    rw [List.getElem?_set_ne (fun (e : k = j) => by
      rcases hk with hk | hk
      · exact hj (e ▸ hk)
      · omega)]
    exact h.sg j hj hl
  · show _ ≤ (σ'.ae.set k x).length
    rw [List.length_set]; exact h.sl
theorem Wx.log (h : Wx σ σ' l js) (x : az dh) : Wx σ (σ'.aZ l x) l js := by
  refine ⟨fun i hi => ?_, ?_, h.sg, h.sl⟩
  · show (σ'.aj.set l x)[i]? = _
    rw [List.getElem?_set_ne (Ne.symm hi)]; exact h.lg i hi
  · show (σ'.aj.set l x).length = _
    rw [List.length_set]; exact h.ll
noncomputable def Aq (σ σ' : St) (l : Nat) (js : List Nat) : Prop := Wx σ σ' l js ∧ ∃ js', sJ σ' l js' ∧ ∀ j ∈ js', j ∈ js ∨ σ.ae.length ≤ j
theorem Aq.same (h : Wx σ σ' l js) (hj : sJ σ' l js) : Aq σ σ' l js := ⟨h, js, hj, fun _ h => .inl h⟩
theorem Aq.more {k : Nat} {o : az dh} (h : Wx σ σ' l js) (hj : sJ σ' l js) (ho : σ'.aj[l]? = some o) (hk : σ.ae.length ≤ k) : Aq σ (σ'.aZ l (o.1, o.2.1, o.2.2.1, o.2.2.2.1 ++ [some k], o.2.2.2.2.1, ())) l js := by
  refine ⟨h.log _, js ++ [k], ⟨_, pI ho, ?_⟩, fun j hj' => ?_⟩
  · obtain ⟨o', h1, h2⟩ := hj
    rw [ho] at h1; simp only [Option.some.injEq] at h1; subst h1
    show o.2.2.2.1 ++ [some k] = _
    rw [h2, List.map_append]; rfl
  · rcases List.mem_append.1 hj' with h | h
    · exact .inl h
    · simp only [List.mem_singleton] at h; subst h; exact .inr hk

theorem abD {x : List UInt8} {r : Int × Int} (hj : sJ σ l js) (h : f59 (some l) x σ = some (r, σ')) : Aq σ σ' l js := by
  unfold f59 at h
  rw [if_neg (by simp)] at h
  split at h
  · simp only [Option.some.injEq, Prod.mk.injEq] at h; rw [← h.2]; exact .same (Wx.refl _ _ _) hj
  obtain ⟨r8, -, h⟩ := Option.bind_eq_some_iff.1 h
  obtain ⟨r10, h10, h⟩ := Option.bind_eq_some_iff.1 h
  split at h
  · obtain ⟨⟨r17, σ1⟩, h17, h⟩ := Option.bind_eq_some_iff.1 h
    obtain ⟨w1, j1, es⟩ := Tt hj h17
    split at h
    · simp only [Option.some.injEq, Prod.mk.injEq] at h; rw [← h.2]; exact .same w1 j1
    obtain ⟨r21, -, h⟩ := Option.bind_eq_some_iff.1 h
    simp only [Option.bind_eq_bind, Option.bind_some] at h
    obtain ⟨o25, -, h⟩ := Option.bind_eq_some_iff.1 h
    obtain ⟨r26, -, h⟩ := Option.bind_eq_some_iff.1 h
    obtain ⟨⟨r27, σ2⟩, h27, h⟩ := Option.bind_eq_some_iff.1 h
    have e3 := Tm h27
    have w2 := (w1.add (r8, [], 0, ())).o3 e3
    have j2 : sJ σ2 l js := sJ.of3 (σ := σ1.ay (r8, [], 0, ())) j1 e3
    split at h
    · simp only [Option.some.injEq, Prod.mk.injEq] at h; rw [← h.2]; exact .same w2 j2
    obtain ⟨o31, -, h⟩ := Option.bind_eq_some_iff.1 h
    split at h
    · obtain ⟨o38, h38, h⟩ := Option.bind_eq_some_iff.1 h
      split at h
      · simp only [Option.some.injEq, Prod.mk.injEq] at h; rw [← h.2]
        have hk : σ.ae.length ≤ σ1.ae.length := w1.sl
        exact .more ((w2.seg (.inr hk) _).seg (.inr hk) _) j2 h38 hk
      · simp at h
    · simp at h
  · rename_i hne
    cases r10 with
    | none => simp at hne
    | some k =>
    have hkj : k ∈ js := by
      unfold f97 at h10
      obtain ⟨i, hi, h10⟩ := Option.bind_eq_some_iff.1 h10
      simp only [Option.some.injEq] at hi; subst hi
      obtain ⟨o, ho, h10⟩ := Option.bind_eq_some_iff.1 h10
      obtain ⟨o', p1, p2⟩ := hj
      rw [p1] at ho; simp only [Option.some.injEq] at ho; subst ho
      split at h10
      · simp at h10
      obtain ⟨y, hy, h10⟩ := Option.bind_eq_some_iff.1 h10
      simp only [Option.some.injEq] at h10; subst h10
      unfold ix at hy
      split at hy
      · rename_i hc
        have hm := List.mem_of_getElem? hy
        rw [p2] at hm
        obtain ⟨z, z1, z2⟩ := List.mem_map.1 hm
        simp only [Option.some.injEq] at z2; rw [← z2]; exact z1
      · simp at hy
    simp only [Option.bind_eq_bind, Option.bind_some] at h
    obtain ⟨o45, -, h⟩ := Option.bind_eq_some_iff.1 h
    obtain ⟨o47, -, h⟩ := Option.bind_eq_some_iff.1 h
    split at h
    · rename_i hd
      obtain ⟨⟨r17, σ1⟩, h17, h⟩ := Option.bind_eq_some_iff.1 h
      obtain ⟨w1, j1, es⟩ := Tt hj h17
      split at h
      · simp only [Option.some.injEq, Prod.mk.injEq] at h; rw [← h.2]; exact .same w1 j1
      obtain ⟨r21, -, h⟩ := Option.bind_eq_some_iff.1 h
      obtain ⟨o25, -, h⟩ := Option.bind_eq_some_iff.1 h
      obtain ⟨r26, -, h⟩ := Option.bind_eq_some_iff.1 h
      obtain ⟨⟨r27, σ2⟩, h27, h⟩ := Option.bind_eq_some_iff.1 h
      have e3 := Tm h27
      have w2 := (w1.add (r8, [], 0, ())).o3 e3
      have j2 : sJ σ2 l js := sJ.of3 (σ := σ1.ay (r8, [], 0, ())) j1 e3
      split at h
      · simp only [Option.some.injEq, Prod.mk.injEq] at h; rw [← h.2]; exact .same w2 j2
      obtain ⟨o31, -, h⟩ := Option.bind_eq_some_iff.1 h
      split at h
      · obtain ⟨σ3, h3, h⟩ := Option.bind_eq_some_iff.1 h
        simp only [Option.some.injEq, Prod.mk.injEq] at h; rw [← h.2]
        have hk : σ.ae.length ≤ σ1.ae.length := w1.sl
        obtain ⟨o38, h38, h3⟩ := Option.bind_eq_some_iff.1 h3
        split at h3
        · simp only [Option.some.injEq] at h3; rw [← h3]
          exact .more ((w2.seg (.inr hk) _).seg (.inr hk) _) j2 h38 hk
        · simp at h3
      · simp at h
    · obtain ⟨r21, -, h⟩ := Option.bind_eq_some_iff.1 h
      obtain ⟨r26, -, h⟩ := Option.bind_eq_some_iff.1 h
      obtain ⟨⟨r27, σ2⟩, h27, h⟩ := Option.bind_eq_some_iff.1 h
      have e3 := Tm h27
      have w2 : Wx σ σ2 l js := Wx.of3 e3
      have j2 : sJ σ2 l js := hj.of3 e3
      split at h
      · simp only [Option.some.injEq, Prod.mk.injEq] at h; rw [← h.2]; exact .same w2 j2
      obtain ⟨o31, -, h⟩ := Option.bind_eq_some_iff.1 h
      split at h
      · obtain ⟨σ3, h3, h⟩ := Option.bind_eq_some_iff.1 h
        simp only [Option.some.injEq, Prod.mk.injEq] at h; rw [← h.2]
        simp only [Option.some.injEq] at h3; rw [← h3]
        exact .same ((w2.seg (.inl hkj) _).seg (.inl hkj) _) j2
      · simp at h
end
end Go.Proofs.YtbnmhjobnepajaaGreat.M


namespace Go.Proofs.YtbnmhjobnepajaaGreat.M

structure WR (σ : St) (l d n0 : Nat) (A : AD) (js : List Nat) (segs : List Sg) (R : List (List UInt8)) : Prop where
  ws : WS σ l d n0 2048 A js segs (aJ segs) (jP segs)
  f0 : Bg segs = 0
  sub : ∀ g ∈ segs, Sub R g
  nx : aJ segs = R.length
  dn : kD A = false

structure Vy (σ : St) (q l d n0 : Nat) (A : AD) (js : List Nat) (segs : List Sg) (R : List (List UInt8)) (x : List UInt8) (e : Int) (σ' : St) (B : AD) (segs' : List Sg) : Prop where
  run : fQ (some q) x σ = some (e, σ')
  fw : Fw σ σ' d n0
  js : Aq σ σ' l js
  room : B.1 = A.1
  arm : nO A = 0 → nO B = 0
  out : (e = 0 ∧ More segs x segs' ∧ ∃ js', WR σ' l d n0 B js' segs' (R ++ [x])) ∨
        (e = 10 ∧ segs' = segs ∧ Over A segs x ∧ ∃ js', WR σ' l d n0 B js' segs R) ∨
        (e = 11 ∧ nO A ≠ 0 ∧ (segs' = segs ∨ More segs x segs') ∧ ∃ s', CSW σ' d n0 B segs' s' ∧ aJ segs ≤ Hf segs' s')

section
variable {σ : St} {q l d n0 : Nat} {a : Int} {A : AD} {js : List Nat} {segs : List Sg} {R : List (List UInt8)} {W : List kX} {V : List VdT}
theorem LG.sJ {most : Int} {safe : Nat} (h : LG σ l d most js segs safe) : sJ σ l js := ⟨_, h.lo, rfl⟩
theorem Aq.comp {σ1 σ2 : St} {js1 : List Nat} (h1 : Wx σ σ1 l js) (hj : sJ σ1 l js1) (hk : ∀ j ∈ js1, j ∈ js ∨ σ.ae.length ≤ j) (h2 : Wx σ1 σ2 l js1) (hj2 : sJ σ2 l js1) : Aq σ σ2 l js := by
  refine ⟨⟨fun i hi => (h2.lg i hi).trans (h1.lg i hi), h2.ll.trans h1.ll, fun j hj hl => ?_, Nat.le_trans h1.sl h2.sl⟩, js1, hj2, hk⟩
  rw [h2.sg j (fun h => by rcases hk j h with h | h; exact hj h; omega) (Nat.lt_of_lt_of_le hl h1.sl)]
  exact h1.sg j hj hl
theorem Fw.queue {σ' : St} (h : Fw σ σ' d n0) : σ'.ah = σ.ah := congrArg (fun x => x.2.1) h.up
theorem Fw.ref {σ' : St} (h : Fw σ σ' d n0) : σ'.aH = σ.aH := congrArg (fun x => x.1) h.up

theorem Oi (h : WR σ l d n0 A js segs R) (hq : σ.ah[q]? = some (a, some l, W, V, ())) {x : List UInt8} (hx : x.length ≤ 1024) (hR : R.length ≤ 100000) (hlen : segs.length ≤ 800) :
    ∃ e σ' B segs', Vy σ q l d n0 A js segs R x e σ' B segs' := by
  have hn := h.nx
  obtain ⟨v, e, σ1, B, js1, segs1, safe1, s1, r1, r2, r3, r4, r5, r6⟩ := abC h.ws h.dn (x := x) hx (by omega) hlen (by omega)
  have hJ := abD h.ws.lg.sJ r1
  have hq1 : σ1.ah[q]? = some (a, some l, W, V, ()) := by rw [r2.queue]; exact hq
  have run0 : fQ (some q) x σ = (if (e != 0) = true then some (e, σ1) else Option.bind (f61 (some l) σ1) fun x5 => some (x5.1, x5.2)) := by
    unfold fQ
    simp only [Option.bind_some, hq, ach, r1, hq1, Dx]
  rcases r5 with ⟨rfl, rfl, o1, o2, o3, o4⟩ | ⟨rfl, o1, rfl, o2, o4⟩ | ⟨rfl, o1, o2, o3, o4, o5, o6, o7, o8⟩
  · -- it went in
    rw [if_neg (by decide)] at run0
    have hsub : ∀ g ∈ segs1, Sub (R ++ [x]) g := Sub.more o2 h.sub h.nx
    have hnx : aJ segs1 = (R ++ [x]).length := by rw [o2.next, h.nx]; simp
    obtain ⟨σ2, B2, e2, g1, g2, g3, g4, g5, g6, g7, g8⟩ := Tq o4.lg o4.dv o4.ok o4.good (by have := o4.len; omega) o4.dl o1
    obtain ⟨w2, j2, -⟩ := Tt o4.lg.sJ g1
    have hJ2 : Aq σ σ2 l js := by
      obtain ⟨k1, js', k2, k3⟩ := hJ
      obtain ⟨o', m1, m2⟩ := k2
      have m3 := o4.lg.lo
      rw [m1] at m3; simp only [Option.some.injEq] at m3; subst m3
      have : js' = js1 := by
        have := m2
        exact (List.map_inj_right (fun a b h => by simpa using h)).1 this.symm
      subst this
      exact Aq.comp k1 o4.lg.sJ k3 w2 j2
    rw [g1] at run0
    rcases g8 with ⟨rfl, d1, l1, m1⟩ | ⟨rfl, d1, a1, l1, m1⟩
    · refine ⟨0, σ2, B2, segs1, run0, r2.trans g2, hJ2, g4.trans r3, fun hh => g5 (r4 hh), .inl ⟨rfl, o2, js1, ⟨l1, g6, g7, m1, o4.good, o4.len, (zQ segs1).symm⟩, by rw [o2.first]; exact h.f0, hsub, hnx, d1⟩⟩
    · refine ⟨11, σ2, B2, segs1, run0, r2.trans g2, hJ2, g4.trans r3, fun hh => g5 (r4 hh), .inr (.inr ⟨rfl, fun hh => a1 (r4 hh), .inr o2, s1, ⟨g6, g7, m1, o4.good, o4.len⟩, ?_⟩)⟩
      rw [← o4.sf]; exact r6
  · rw [if_pos (by decide)] at run0
    have hs1 : safe1 = aJ segs1 := by
      have := zS o4
      omega
    refine ⟨10, σ1, B, segs1, run0, r2, hJ, r3, r4, .inr (.inl ⟨rfl, rfl, o2, js1, ?_, h.f0, h.sub, h.nx, o1⟩)⟩
    subst hs1
    rcases List.eq_nil_or_concat segs1 with rfl | ⟨pre, g, rfl⟩
    · obtain ⟨b1, b2, b3, b4, b5, b6, b7⟩ := o4
      obtain ⟨hL, rfl⟩ := b4.inv0
      exact ⟨b1, b2, b3, .none hL, b5, b6, rfl⟩
    · rw [List.concat_eq_append] at *
      have e1 := o4.sf
      have e2 := zQ (pre ++ [g])
      rw [mO] at e1 e2
      have e3 : s1 = jP (pre ++ [g]) := by omega
      rw [← e3]; exact o4
  · rw [if_pos (by decide)] at run0
    have hgl : Good segs1 ∧ segs1.length ≤ 900 := by
      rcases o3 with rfl | o3
      · exact ⟨h.ws.good, h.ws.len⟩
      · exact ⟨o3.good h.ws.good hx (by omega), by have := o3.len; omega⟩
    exact ⟨11, σ1, B, segs1, run0, r2, hJ, r3, r4, .inr (.inr ⟨rfl, o2, o3, s1, ⟨o6, o7, o8, hgl.1, hgl.2⟩, by omega⟩)⟩
end
end Go.Proofs.YtbnmhjobnepajaaGreat.M

