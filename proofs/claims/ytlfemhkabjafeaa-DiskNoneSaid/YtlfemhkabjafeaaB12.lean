/- Own library, part 12: small helpers of the printed walks. -/
import Derived.Test.YtlfemhkabjafeaaB11
set_option linter.unusedVariables false
set_option linter.unusedSimpArgs false
namespace Go.Proofs.Ytlfemhkabjafeaa.M

abbrev Kd.i : Kd := .int .i64

theorem bs {α β : Type} {x : Option α} {f : α → Option β} {r : β} (h : (x >>= f) = some r) : ∃ v, x = some v ∧ f v = some r := by
  cases x with
  | none => exact absurd h (by simp)
  | some v => exact ⟨v, rfl, h⟩

theorem gd {α : Type} {p : Prop} [Decidable p] {x : Option α} {r : α} (h : (if p then x else none) = some r) : p ∧ x = some r := by
  by_cases hp : p
  · rw [if_pos hp] at h; exact ⟨hp, h⟩
  · rw [if_neg hp] at h; exact absurd h (by simp)

theorem rs {α : Type} (i : α) : (some i : Option α) = some i := rfl

theorem bf {b : Bool} (h : ¬ b = true) : b = false := by cases b <;> simp_all

def ix {α : Type} (xs : List α) (i : Int) : Option α := if 0 ≤ i then xs[i.toNat]? else none

theorem IxAt.of {k : Kd} {xs : List k.den} {n : Int} {y : k.den} (h : ix xs n = some y) : IxAt k xs n k y := by
  unfold ix at h
  obtain ⟨h0, h⟩ := gd h
  exact IxAt.mk h0 h

theorem ObAt.mk {T : Tabs} {t i : Nat} {fs : List Fk} {x : denFs fs} {xs : List (denFs fs)} (h0 : T t = some ⟨fs, xs⟩) (h : xs[i]? = some x) : ObAt T t i fs x := ⟨xs, h0, h⟩

/-- The entries of a list as the other list wants them. -/
def subC (E : Env) : Env → Option Env
  | [] => some []
  | (s, want) :: r => (match lk E s with
    | some e => (match coeE want e with
      | some e' => (match subC E r with
        | some l => some ((s, e') :: l)
        | none => none)
      | none => none)
    | none => none)

theorem subC_lk {G : Gh} {N : Nat} {a : Act} {E : Env} (hE : EnvR G N a E) : ∀ {D D' : Env}, subC E D = some D' → ∀ s e, lk D' s = some e → EnR G e (a.tmps.getD s Go.undef)
  | [], D', h, s, e, hs => by simp [subC] at h; subst h; simp [lk] at hs
  | (t, want) :: r, D', h, s, e, hs => by
    unfold subC at h
    split at h
    · rename_i e0 h0
      split at h
      · rename_i e' h1
        split at h
        · rename_i l hl
          simp only [Option.some.injEq] at h; subst h
          rw [lk_cons] at hs
          by_cases hst : t = s
          · subst hst
            simp at hs; subst hs
            exact coeE_ok h1 (hE.2.2 _ _ h0)
          · rw [if_neg hst] at hs
            exact subC_lk hE hl s e hs
        · simp at h
      · simp at h
    · simp at h

theorem EnvR.subC {G : Gh} {N : Nat} {a : Act} {E D : Env} (hE : EnvR G N a E) (h : M.subC E D = some D) : EnvR G N a D :=
  ⟨hE.1, hE.2.1, fun s e hs => subC_lk hE h s e hs⟩

theorem Exit.in_eq {id : Nat} {Q : Exit → Act → World → Prop} {a : Act} {w : World} (h : Q .normal a w) : Exit.inBlock id Q (.exit id) a w := by
  unfold Exit.inBlock
  simp only [if_true]
  exact h

theorem ifT {α : Type} {b : Bool} {x y : Option α} {r : α} (hc : b = true) (h : (if b = true then x else y) = some r) : x = some r := by rw [if_pos hc] at h; exact h
theorem ifF {α : Type} {b : Bool} {x y : Option α} {r : α} (hc : b = false) (h : (if b = true then x else y) = some r) : y = some r := by subst hc; exact h
theorem ifN {α : Type} {b : Bool} {x y : Option α} {r : α} (hc : ¬ b = true) (h : (if b = true then x else y) = some r) : y = some r := by rw [if_neg hc] at h; exact h
theorem eb {b c : Bool} (h : b = c) : En.kv .bool b = En.kv .bool c := by rw [h]

section
variable {P : Program} {w : World} {a : Act} {Q : Exit → Act → World → Prop} {K : Act → World → Prop} {id : Nat}
theorem Exit.then_normal (h : K a w) : Exit.then K Q .normal a w := h
theorem Exit.then_exit (h : Q (.exit id) a w) : Exit.then K Q (.exit id) a w := h
theorem Exit.then_ret (h : Q .ret a w) : Exit.then K Q .ret a w := h
theorem Exit.in_normal (h : Q .normal a w) : Exit.inBlock id Q .normal a w := h
theorem Exit.in_ret (h : Q .ret a w) : Exit.inBlock id Q .ret a w := h
theorem Exit.in_ne {id' : Nat} (hne : ¬ id' = id) (h : Q (.exit id') a w) : Exit.inBlock id Q (.exit id') a w := by
  unfold Exit.inBlock; simp only [hne, if_false]; exact h
theorem loop_intro {c : Code} (h : ∀ (Q' : Exit → Act → World → Prop) (c' : Code), Q' = Q → c' = c → Rnd P c' Q' a w) : (Code.loop c).wp P Q a w := wp_loop_rnd (h Q c rfl rfl)
theorem rnd_step' {c c' : Code} (hc : c' = c) (h : c.wp P (Exit.then (Rnd P c' Q) Q) a w) : Rnd P c' Q a w := by subst hc; exact rnd_step h
theorem join_intro {c : Code} {I : Act → World → Prop} (ho : True) (h1 : ∀ a w, I a w → Q .normal a w) (h2 : ∀ Q' : Exit → Act → World → Prop, (∀ a w, I a w → Q' .normal a w) → True → c.wp P Q' a w) : c.wp P Q a w := h2 Q h1 ho
end

section
variable {P : Program} {w : World} {G : Gh} {T : Tabs} {Ls : List LS} {a : Act} {N : Nat} {E : Env} {ops : Array Oper} {Q : Exit → Act → World → Prop} {D : List En} {loud : List Nat} {G0 : Gh} {Tk : Nat → Tabs} {Lk : Nat → List LS}
/-- One that only reads; its value seen as the list has it. -/
theorem obRe {i k : Nat} (A : List Adv) {Os : List Prop} (hO : AllP Os) {e : En} (hl : loud.contains i = false) (h : rdE P (Tk k) (Lk k) ops (envI ops E D i) i A = some (e, Os, [])) (he : e = D.getD i .undef) : OpOb P ops Q N E D loud G0 Tk Lk i k :=
  obR A hO hl (by rw [h, he])
theorem eb2 {D : List En} {i : Nat} {b c : Bool} (h : b = c) (hd : D.getD i .undef = En.kv .bool c) : En.kv .bool b = D.getD i .undef := by rw [hd, h]
end
end Go.Proofs.Ytlfemhkabjafeaa.M
