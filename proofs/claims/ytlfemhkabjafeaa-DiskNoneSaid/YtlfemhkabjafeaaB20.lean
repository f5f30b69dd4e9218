/- Own library, part 20: the library's sort upon an unseen list; publishing it. -/
import Derived.Test.YtlfemhkabjafeaaB19
import Derived.Sort.OwnSorted
set_option linter.unusedVariables false
set_option linter.unusedSimpArgs false
namespace Go.Proofs.Ytlfemhkabjafeaa.M

section
variable {P : Program} {w : World} {G : Gh} {T T' : Tabs} {Ls Ls' : List LS} {a : Act} {N : Nat} {E : Env} {ops : Array Oper} {Q : Exit → Act → World → Prop}

theorem rowR_strs : ∀ {xs : List (List UInt8)} {cs : List Value}, rowR (Kr G .str) 1 xs cs → cs.take xs.length = xs.map encStr
  | [], cs, _ => by simp
  | x :: xs, cs, ⟨h0, h1, h2⟩ => by
    cases cs with
    | nil => simp at h0
    | cons c cs =>
      simp only [List.take_succ_cons, List.take_zero] at h1
      have hc : c = encStr x := by
        have := h1; simp only [Kr] at this
        simpa using this
      simp only [List.length_cons, List.take_succ_cons, List.map_cons]
      rw [rowR_strs (by simpa using h2), hc]

theorem rowR_ofStrs : ∀ {xs : List (List UInt8)}, rowR (Kr G .str) 1 xs (xs.map encStr)
  | [] => trivial
  | x :: xs => ⟨by simp, by simp [Kr], by simpa using rowR_ofStrs (xs := xs)⟩

/-- The list has been sorted in place; new blocks may have come. -/
theorem Holds.rawSorted (h : Holds w G T Ls) {j g c e bt n : Nat} {xs ts : List (List UInt8)} {os : Array Obj} (hj : Ls[j]? = some (.raw (.slice (some ⟨g, 0, none⟩) xs.length c) e bt .str xs)) (hl : ts.length = xs.length) :
    Holds (Go.Sort.grow (Go.Sort.putRow encStr (Go.Sort.ahead w n) g 0 ts.toArray) os) G T (Ls.set j (.raw (.slice (some ⟨g, 0, none⟩) xs.length c) e bt .str ts)) := by
  obtain ⟨cs, o1, o2, o3, o4⟩ := h.loc _ (List.mem_of_getElem? hj)
  obtain ⟨q1, q2, q3, q4, q5⟩ := grownBy_sorted (w := w) (g := g) (n := n) (os := os) ts.toArray
  have hrg : G.role g = .loc := o4 g rfl
  have hglt : g < w.heap.size := h.lt (by rw [hrg]; simp)
  rcases o1.2 with ⟨hn, _⟩ | ⟨g', cap, cur, hv, hb0, hb, h1, h2, h3, h4⟩
  · simp at hn
  · simp only [Value.slice.injEq, Option.some.injEq, Addr.mk.injEq, and_true, true_and] at hv
    obtain ⟨rfl, rfl⟩ := hv
    have hown := ownsRow_sorted (w := w) (n := n) (os := os) (ss := xs) (ts := ts) hl (Nat.zero_le _) hb h1 h2 (by simpa [Kd.w] using h3)
    have hsame : ∀ b, ¬ (b = g ∨ w.heap.size ≤ b) → (Go.Sort.grow (Go.Sort.putRow encStr (Go.Sort.ahead w n) g 0 ts.toArray) os).heap[b]? = w.heap[b]? := fun b hb' => q5 b (by omega) (fun he => by simp at he; exact hb' (.inl (by first | exact he | exact he.symm)))
    have hnb : ∀ b, G.role b ≠ .free → G.role b ≠ .loc → ¬ (b = g ∨ w.heap.size ≤ b) := by
      rintro b k1 k2 (rfl | hb')
      · exact k2 hrg
      · exact k1 (h.free b hb')
    refine h.change (fun b => b = g ∨ w.heap.size ≤ b) (Gh.le_refl G) ⟨q1, q2, q3⟩ (fun b hb' => h.free b (by omega)) (fun b hb' => ⟨hsame b hb', rfl⟩) ?_ ?_ ?_ ?_ h.ex h.inj h.finj h.fex
    · rintro b (rfl | hb')
      · unfold BlockOK; rw [hrg]; trivial
      · unfold BlockOK; rw [h.free b hb']; trivial
    · intro b t i _ _ tab x cs' k1 k2 k3
      refine ⟨tab, x, k1, k2, ObjR_keep (w := w) (L := Ls) (Gh.le_refl G) (holeAt_set hj (fun _ _ _ => rfl) (fun _ _ _ => rfl) t i) (fun b f hb' => ⟨hsame b (hnb b ?_ ?_), rfl⟩) k3⟩
      · rcases hb' with hb' | ⟨p, hb'⟩ <;> rw [hb'] <;> simp
      · rcases hb' with hb' | ⟨p, hb'⟩ <;> rw [hb'] <;> simp
    · intro l hl'
      rcases mem_set_other hj (b := g) rfl h.nd hl' with rfl | ⟨hl', hne⟩
      · refine ⟨ts.map encStr, ?_, rowR_ofStrs, o3, o4⟩
        rw [hl]; exact hown
      · refine LSR_keep (Gh.le_refl G) (fun b hb' => ⟨hsame b ?_, rfl⟩) (h.loc l hl')
        rintro (rfl | hge)
        · exact hne hb'
        · have := h.blk_lt hl' hb'; omega
    · exact nodup_set hj rfl h.nd

/-- The list is published: from now on it stays. -/
theorem Holds.rawPub (h : Holds w G T Ls) {v : Value} {e bt : Nat} {K : Kd} {xs : List K.den} (hm : .raw v e bt K xs ∈ Ls) (hd : ∀ l ∈ Ls', l ∈ Ls ∧ l.blk ≠ v.ownBlock ∨ l.blk = none ∧ l ∈ Ls) (hh : ∀ t i f, holeAt t i f Ls' = holeAt t i f Ls) (hnd : (Ls'.filterMap LS.blk).Nodup) :
    ∃ G', G.le G' ∧ VR G' (.list K) xs v ∧ Holds w G' T Ls' := by
  obtain ⟨cs, o1, o2, o3, o4⟩ := h.loc _ hm
  cases hb : v.ownBlock with
  | none =>
    refine ⟨G, Gh.le_refl G, ownV_list (o := .loc) ⟨cs, o1, o2, o3, fun b hb' => by rw [hb] at hb'; simp at hb'⟩, ?_⟩
    refine h.change (fun _ => False) (Gh.le_refl G) ⟨rfl, rfl, rfl⟩ h.free (fun b _ => ⟨rfl, rfl⟩) (fun _ hb => hb.elim) ?_ ?_ hnd h.ex h.inj h.finj h.fex
    · intro b t i _ _ tab x cs h1 h2 h3
      exact ⟨tab, x, h1, h2, ObjR_keep (w := w) (L := Ls) (Gh.le_refl G) (fun f => hh t i f) (fun _ _ _ => ⟨rfl, rfl⟩) h3⟩
    · intro l hl
      rcases hd l hl with h1 | h1
      · exact h.loc l h1.1
      · exact h.loc l h1.2
  | some g =>
    have hg := o4 g hb
    have hle : G.le (G.set g (.grow .loc cs)) := Gh.le_set (by rw [hg]; trivial)
    have hs : ∀ b, b ≠ g → w.heap[b]? = w.heap[b]? ∧ (G.set g (.grow .loc cs)).role b = G.role b := fun b hb => ⟨rfl, Gh.set_ne _ _ hb⟩
    have hrf : ∀ (r : Role) b, G.role b = r → r ≠ .loc → b ≠ g := fun r b hq hq2 he => by rw [he, hg] at hq; exact hq2 hq.symm
    refine ⟨_, hle, ownV_list (o := .loc) ⟨cs, o1, rowR_mono (fun x cs hx => Kr_mono hle hx) o2, o3, fun b hb' => by rw [hb] at hb'; simp at hb'; subst hb'; exact Gh.set_same _ _ _⟩, ?_⟩
    refine h.change (fun b => b = g) hle ⟨rfl, rfl, rfl⟩ (fun b hb => ?_) (fun b hb => hs b hb) (fun b hb' => ?_) ?_ ?_ hnd ?_ ?_ ?_ ?_
    · have := h.free b hb
      rw [Gh.set_ne _ _ (hrf _ b this (by simp))]; exact this
    · subst hb'
      obtain ⟨cur, k1, k2⟩ := ownsRow_prefix o1 hb
      unfold BlockOK; rw [Gh.set_same]
      exact ⟨cur, e, k1, k2⟩
    · intro b t i hb1 hb2 tab x cs' k1 k2 k3
      refine ⟨tab, x, k1, k2, ObjR_keep (w := w) (L := Ls) hle (fun f => hh t i f) (fun b f hb => hs b ?_) k3⟩
      rcases hb with hb | ⟨p, hb⟩
      · exact hrf _ b hb (by simp)
      · exact hrf _ b hb (by simp)
    · intro l hl
      rcases hd l hl with ⟨h1, h2⟩ | ⟨h1, h2⟩
      · exact LSR_keep hle (fun b hb' => hs b (fun he => by subst he; rw [hb] at h2; exact h2 hb')) (h.loc l h1)
      · exact LSR_keep hle (fun b hb' => by rw [h1] at hb'; simp at hb') (h.loc l h2)
    · intro t tab i k1 k2
      obtain ⟨b, hb⟩ := h.ex t tab i k1 k2
      exact ⟨b, by rw [Gh.set_ne _ _ (hrf _ b hb (by simp))]; exact hb⟩
    · intro b b' t i k1 k2
      have n1 : b ≠ g := fun he => by subst he; rw [Gh.set_same] at k1; simp at k1
      have n2 : b' ≠ g := fun he => by subst he; rw [Gh.set_same] at k2; simp at k2
      rw [Gh.set_ne _ _ n1] at k1; rw [Gh.set_ne _ _ n2] at k2
      exact h.inj b b' t i k1 k2
    · intro b b' t i f k1 k2
      have n1 : b ≠ g := fun he => by subst he; rw [Gh.set_same] at k1; simp at k1
      have n2 : b' ≠ g := fun he => by subst he; rw [Gh.set_same] at k2; simp at k2
      rw [Gh.set_ne _ _ n1] at k1; rw [Gh.set_ne _ _ n2] at k2
      exact h.finj b b' t i f k1 k2
    · intro b t i f k1
      have n1 : b ≠ g := fun he => by subst he; rw [Gh.set_same] at k1; simp at k1
      rw [Gh.set_ne _ _ n1] at k1
      exact h.fex b t i f k1

/-- A slot that holds a value of which one knows more. -/
theorem EnvR.more (hE : EnvR G N a E) (s : Nat) {v : Value} {e : En} (h : lk E s = some (.val v)) (he : EnR G e v) : EnvR G N a ((s, e) :: E) := by
  refine ⟨hE.1, hE.2.1, fun u e2 ht => ?_⟩
  rw [lk_cons] at ht
  by_cases hst : s = u
  · subst hst
    simp at ht; subst ht
    have := hE.2.2 s _ h
    simp only [EnR] at this
    rw [this]; exact he
  · rw [if_neg hst] at ht; exact hE.2.2 u _ ht

/-- A call of which one knows what it does at these arguments in this world. -/
theorem stepCallV {i f : Nat} {As : List En} {R : En} {d : Option Nat} (hok : callable P f = true) (hC : ∀ args : List Value, All2 (EnR G) As args → Calls P f args.toArray w (PostC G R T' Ls')) (hE : EnvR G N a E)
    (hc : callE ops E i As = some (f, As, d)) (hd : dstOK d N = true) (hout : True)
    (k : ∀ a' w' G', G.le G' → EnvR G' N a' (putE d R E) → Holds w' G' T' Ls' → wpFrom P ops Q (i + 1) a' w') : wpFrom P ops Q i a w := by
  unfold callE at hc
  split at hc
  · rename_i o ho
    split at hc
    · rename_i hgo
      have hw := goes_ok (CurR_start hE) hgo
      split at hc
      · rename_i c hop
        split at hc
        · rename_i f' hcal
          split at hc
          · rename_i es hes
            simp only [Option.some.injEq, Prod.mk.injEq] at hc
            obtain ⟨rfl, rfl, rfl⟩ := hc
            rw [wpFrom_cons ho, if_pos hw]
            refine .inl ?_
            unfold Oper.wp
            have hr : (execOp a.eval o).run P w = .ok (.enter f' (c.args.toList.map a.eval).toArray) w := by
              have hargs : (c.args.map a.eval) = (c.args.toList.map a.eval).toArray := by
                apply Array.ext'; simp
              simp [execOp, hop, resolve, hcal, Act.eval, Deferred.ofValue, invoke, callFunc_enter hok]
              exact hargs
            rw [hr]
            refine (hC _ (enOps_ok (CurR_start hE) hes)).mono ?_
            intro e w' hp
            cases e with
            | returned v =>
              obtain ⟨G', hle, hv, hH'⟩ := hp
              exact k _ _ G' hle ((hE.mono hle).putO hd hv) hH'
            | panicked c => exact hp.elim
            | outgrown => exact False.elim hp
          · simp at hc
        · simp at hc
      · simp at hc
    · simp at hc
  · simp at hc
end
end Go.Proofs.Ytlfemhkabjafeaa.M
