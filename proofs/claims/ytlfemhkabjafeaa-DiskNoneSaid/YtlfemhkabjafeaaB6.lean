/- Own library, part 6: the step over a stretch of reading operations; regions whose order is open. -/
import Derived.Test.YtlfemhkabjafeaaB5
set_option linter.unusedVariables false
set_option linter.unusedSimpArgs false
namespace Go.Proofs.Ytlfemhkabjafeaa.M

section
variable {P : Program} {w : World} {G : Gh} {T : Tabs} {Ls : List LS} {a : Act} {N : Nat} {E cur : Env} {ops : Array Oper} {Q : Exit → Act → World → Prop}

theorem rsvS_ok {L : Nat → Option En} (hL : CurR G a L) {s : Nat} {e : En} (h : rsvS L s = some e) : EnR G e (a.tmps.getD s Go.undef) := by
  unfold rsvS at h
  split at h
  · rename_i e0 h0
    exact rsv_ok hL (hL _ _ h0) h
  · simp at h

theorem segOpO_ok (h : Holds w G T Ls) {L : Nat → Option En} (hL : CurR G a L) {o : Oper} {A A' : List Adv} {e : En} {O : List Prop} (he : segOpO P T Ls ops L o A = some (e, O, A')) (hO : AllP O) :
    (Region.wanted o (yielded ops a.tmps) = true → ∃ v, (execOp a.eval o).run P w = .ok (.value v) w ∧ EnA G a e v) ∧
    (Region.wanted o (yielded ops a.tmps) = false → EnA G a e Go.undef) := by
  unfold segOpO at he
  unfold Region.wanted
  split at he
  · rename_i hg
    rw [hg]
    refine ⟨fun _ => ?_, fun hw => by simp at hw⟩
    split at he
    · rename_i c x y hop
      split at he
      · rename_i e0 hp
        simp only [Option.some.injEq, Prod.mk.injEq] at he
        obtain ⟨rfl, rfl, rfl⟩ := he
        rw [← hop] at hp
        obtain ⟨v, h1, h2⟩ := pevP_ok hL (by simp) hp
        exact ⟨v, h1 w, EnA_of_EnR h2⟩
      · simp at he
    · obtain ⟨v, h1, h2⟩ := ev_ok h (fun x e hx => opnd_ok hL (by simp) hx) he hO
      exact ⟨v, h1, EnA_of_EnR h2⟩
  · rename_i j want hg
    rw [hg]
    split at he
    · rename_i sj hj
      split at he
      · rename_i e0 hp
        simp only [Option.some.injEq, Prod.mk.injEq] at he
        obtain ⟨rfl, rfl, rfl⟩ := he
        refine ⟨fun hw => ?_, fun hw => ?_⟩
        · have hs := (yielded_iff hj want).1 hw
          obtain ⟨v, h1, h2⟩ := pevP_ok hL (chain_ok hL hs) hp
          exact ⟨v, h1 w, fun _ => EnA_of_EnR h2, fun hn => (hn hs).elim⟩
        · have hs : ¬ a.tmps.getD sj Go.undef = .bool want := fun hs => by
            have := (yielded_iff (a := a) hj want).2 hs
            simp only at hw
            rw [this] at hw; simp at hw
          exact ⟨fun hn => (hs hn).elim, fun _ => rfl⟩
      · split at he
        · rename_i b hb
          have hsb := unB (rsvS_ok hL hb)
          split at he
          · have hw1 := (yielded_iff (a := a) hj true).2 hsb
            refine ⟨fun hw => ?_, fun hw => by simp only at hw; rw [hw1] at hw; simp at hw⟩
            obtain ⟨v, h1, h2⟩ := ev_ok h (fun x e hx => opnd_ok hL (chain_ok hL hsb) hx) he hO
            exact ⟨v, h1, EnA_of_EnR h2⟩
          · have hw1 := (yielded_iff (a := a) hj false).2 hsb
            refine ⟨fun hw => ?_, fun hw => by simp only at hw; rw [hw1] at hw; simp at hw⟩
            obtain ⟨v, h1, h2⟩ := ev_ok h (fun x e hx => opnd_ok hL (chain_ok hL hsb) hx) he hO
            exact ⟨v, h1, EnA_of_EnR h2⟩
          · simp only [Option.some.injEq, Prod.mk.injEq] at he
            obtain ⟨rfl, rfl, rfl⟩ := he
            refine ⟨fun hw => ?_, fun _ => rfl⟩
            have := (yielded_iff hj false).1 hw
            rw [hsb] at this; simp at this
          · simp only [Option.some.injEq, Prod.mk.injEq] at he
            obtain ⟨rfl, rfl, rfl⟩ := he
            refine ⟨fun hw => ?_, fun _ => rfl⟩
            have := (yielded_iff hj true).1 hw
            rw [hsb] at this; simp at this
        · rename_i hb
          have hsb : a.tmps.getD sj Go.undef = Go.undef := rsvS_ok hL hb
          simp only [Option.some.injEq, Prod.mk.injEq] at he
          obtain ⟨rfl, rfl, rfl⟩ := he
          refine ⟨fun hw => ?_, fun _ => rfl⟩
          have := (yielded_iff hj want).1 hw
          rw [hsb] at this
          exact absurd this (by simp [Go.undef])
        · simp at he
    · simp at he

theorem segsO_ok (h : Holds w G T Ls) (hE : ∀ s e, lk E s = some e → e.plain = true) :
    ∀ {n i : Nat} {a : Act} {cur cur' : Env} {A : List Adv} {O : List Prop}, a.tmps.size = N → a.defers = [] → CurR G a (look E cur) → segsO P T Ls ops N E n i cur A = some (cur', O) → AllP O →
      (∀ a', a'.tmps.size = N → a'.defers = [] → CurR G a' (look E cur') → wpFrom P ops Q (i + n) a' w) → wpFrom P ops Q i a w
  | 0, i, a, cur, cur', A, O, h1, h2, h3, hs, hO, k => by
    cases A with
    | nil =>
      simp only [segsO, Option.some.injEq, Prod.mk.injEq] at hs
      obtain ⟨rfl, rfl⟩ := hs
      exact k a h1 h2 h3
    | cons x A => simp [segsO] at hs
  | n + 1, i, a, cur, cur', A, O, h1, h2, h3, hs, hO, k => by
    unfold segsO at hs
    split at hs
    · rename_i o ho
      split at hs
      · rename_i e O1 A1 he
        have hi : i + 1 + n = i + (n + 1) := by omega
        split at hs
        · rename_i d hd
          split at hs
          · rename_i hc
            split at hs
            · rename_i c O2 hs2
              simp only [Option.some.injEq, Prod.mk.injEq] at hs
              obtain ⟨rfl, rfl⟩ := hs
              obtain ⟨hO1, hO2⟩ := AllP_append.1 hO
              obtain ⟨k1, k2⟩ := segOpO_ok (P := P) h h3 he hO1
              have step : ∀ v, EnA G a e v → wpFrom P ops Q (i + 1) (a.put o.dst v) w := by
                intro v hv
                rw [hd]
                refine segsO_ok h hE (by simp [Act.put, h1]) (by simp [Act.put, h2]) (CurR_put h1 hE h3 hc hv) hs2 hO2 ?_
                rw [hi]; exact k
              rw [wpFrom_cons ho]
              split
              · rename_i hw
                obtain ⟨v, hr, hv⟩ := k1 hw
                refine .inl ?_
                unfold Oper.wp
                rw [hr]
                exact step v hv
              · rename_i hw
                exact step _ (k2 (by simpa using hw))
            · simp at hs
          · simp at hs
        · rename_i hd
          split at hs
          · rename_i c O2 hs2
            simp only [Option.some.injEq, Prod.mk.injEq] at hs
            obtain ⟨rfl, rfl⟩ := hs
            obtain ⟨hO1, hO2⟩ := AllP_append.1 hO
            obtain ⟨k1, k2⟩ := segOpO_ok (P := P) h h3 he hO1
            have step : ∀ v, EnA G a e v → wpFrom P ops Q (i + 1) (a.put o.dst v) w := by
              intro v hv
              rw [hd]
              refine segsO_ok h hE h1 h2 h3 hs2 hO2 ?_
              rw [hi]; exact k
            rw [wpFrom_cons ho]
            split
            · rename_i hw
              obtain ⟨v, hr, hv⟩ := k1 hw
              refine .inl ?_
              unfold Oper.wp
              rw [hr]
              exact step v hv
            · rename_i hw
              exact step _ (k2 (by simpa using hw))
          · simp at hs
      · simp at hs
    · simp at hs

/-- What is known of the slots behind a stretch. -/
theorem EnvR.behind {a0 : Act} (hE : EnvR G N a0 E) {sl : List Nat} {D : Env} (h1 : a.tmps.size = N) (h2 : a.defers = []) (h3 : CurR G a (look E cur)) (hst : stale E sl cur = true)
    (hs : pickS (look E cur) sl = some D) : EnvR G N a (D ++ E) := by
  refine ⟨h1, h2, ?_⟩
  intro s e h
  rw [lk_append] at h
  cases hD : lk D s with
  | some e' =>
    rw [hD] at h
    simp at h; subst h
    exact pickS_ok h3 hs s _ hD
  | none =>
    rw [hD] at h
    simp at h
    have hcur : lk cur s = none := by
      cases hcs : lk cur s with
      | none => rfl
      | some e1 =>
        rcases stale_ok hst s e1 hcs with h4 | h4
        · obtain ⟨e2, he2⟩ := pickS_dom hs s h4
          rw [hD] at he2; simp at he2
        · rw [h4] at h; simp at h
    have hl : look E cur s = some e := by unfold look; rw [hcur]; exact h
    exact EnR_of_EnA (hE.plain s e h) (h3 s e hl)

theorem CurR_start (hE : EnvR G N a E) : CurR G a (look E []) := by
  intro s e h
  simp only [look, lk] at h
  exact EnA_of_EnR (hE.2.2 s e h)

/-- A stretch of n operations that only read, from the i-th on. A: advice, in order; D: what is to be known of the slots that it writes; Os: what is owed. -/
theorem segO (n : Nat) (A : List Adv) (D : Env) {Os : List Prop} (hO : AllP Os) {i : Nat} (hE : EnvR G N a E) (hH : Holds w G T Ls)
    (hs : segDO P T Ls ops N E n i A (fsts D) = some (D, Os)) (k : ∀ a', EnvR G N a' (D ++ E) → wpFrom P ops Q (i + n) a' w) : wpFrom P ops Q i a w := by
  unfold segDO at hs
  split at hs
  · rename_i c O hc
    split at hs
    · rename_i hst
      split at hs
      · rename_i D' hD
        simp only [Option.some.injEq, Prod.mk.injEq] at hs
        obtain ⟨rfl, rfl⟩ := hs
        exact segsO_ok hH hE.plain hE.1 hE.2.1 (CurR_start hE) hc hO (fun a' h1 h2 h3 => k a' (hE.behind h1 h2 h3 hst hD))
      · simp at hs
    · simp at hs
  · simp at hs

end
end Go.Proofs.Ytlfemhkabjafeaa.M
