/- Plain law, part 1: the reference's disk: places. -/
import Derived.Test.YtlfemhkabjafeaaV0
set_option linter.unusedVariables false
set_option linter.unusedSimpArgs false
namespace Go.Proofs.Ytlfemhkabjafeaa.M

theorem ix_at {α : Type} {l : List α} {n : Nat} (h : n < l.length) : ix l (n : Int) = some l[n] := by
  simp [ix, h]

/-- A file's place; below 0: there is none. -/
def atR : List K52.den → List UInt8 → Nat → Int
  | [], _, _ => -1
  | f :: r, s, n => if f.1 == s then (n : Int) else atR r s (n + 1)

theorem f34_loop {σ : St} {i : Nat} {o : denFs fs47} (ho : σ.t47[i]? = some o) (s : List UInt8) (hs : o.2.1.length < 9223372036854775808) : ∀ (k n : Nat), n + k = o.2.1.length →
    (f34_l0 (some i) s σ (n : Int) >>= fun r => (match r with | .inr yy => some yy | .inl _ => some (-1))) = some (atR (o.2.1.drop n) s n)
  | 0, n, h => by
    rw [f34_l0]
    have : n = o.2.1.length := by omega
    subst this
    simp [ho, atR]
  | k + 1, n, h => by
    rw [f34_l0]
    have hn : n < o.2.1.length := by omega
    have ih := f34_loop ho s hs k (n + 1) (by omega)
    have hw : IntKind.wrap .i64 ((n : Int) + 1) = ((n + 1 : Nat) : Int) := by rw [wrap_id (by omega) (by omega)]; omega
    have hd : o.2.1.drop n = o.2.1[n] :: o.2.1.drop (n + 1) := by simp
    have h1 : ((n : Int) < (o.2.1.length : Int)) := by omega
    simp only [ho, Option.bind_eq_bind, Option.bind_some, h1, decide_true, if_true, ix_at hn, hw]
    rw [hd]
    simp only [atR]
    by_cases hc : (o.2.1[n].1 == s) = true
    · rw [if_pos hc, if_pos hc]; simp
    · rw [if_neg hc, if_neg hc]
      simpa using ih

theorem f34_eq {σ : St} {i : Nat} {o : denFs fs47} (ho : σ.t47[i]? = some o) (s : List UInt8) (hs : o.2.1.length < 9223372036854775808) : f34 (some i) s σ = some (atR o.2.1 s 0) := by
  have h0 := f34_loop ho s hs o.2.1.length 0 (by omega)
  rw [show (((0 : Nat) : Int)) = (0 : Int) from rfl] at h0
  unfold f34
  cases h : f34_l0 (some i) s σ 0 with
  | none => rw [h] at h0; simp at h0
  | some r =>
    rw [h] at h0
    cases r with
    | inl z => simpa using h0
    | inr z => simpa using h0
end Go.Proofs.Ytlfemhkabjafeaa.M
