/- Own library, part 19: lists that grow and are seen by nobody yet; they may be sorted in place, and published then. -/
import Derived.Test.YtlfemhkabjafeaaB18
set_option linter.unusedVariables false
set_option linter.unusedSimpArgs false
namespace Go.Proofs.Ytlfemhkabjafeaa.M

section
variable {P : Program} {w : World} {G : Gh} {T T' : Tabs} {Ls : List LS} {a : Act} {N : Nat} {E : Env} {ops : Array Oper} {Q : Exit → Act → World → Prop}

theorem Holds.nilRaw (h : Holds w G T Ls) (e bt : Nat) (K : Kd) : Holds w G T (.raw (.slice none 0 0) e bt K [] :: Ls) := by
  refine h.change (fun _ => False) (Gh.le_refl G) ⟨rfl, rfl, rfl⟩ h.free (fun b _ => ⟨rfl, rfl⟩) (fun _ hb => hb.elim) ?_ ?_ h.nd h.ex h.inj h.finj h.fex
  · intro b t i _ _ tab x cs h1 h2 h3
    exact ⟨tab, x, h1, h2, ObjR_keep (w := w) (L := Ls) (Gh.le_refl G) (fun f => holeAt_cons (fun _ _ _ => rfl) _ _ _ _) (fun _ _ _ => ⟨rfl, rfl⟩) h3⟩
  · intro l hl
    rcases List.mem_cons.1 hl with rfl | h1
    · exact ⟨[], World.ownsRow_nil w 0 e K.w, trivial, trivial, fun b hb => by simp [Value.ownBlock] at hb⟩
    · exact h.loc l h1

/-- An unseen list turns: in its own block, or into a new one. -/
theorem Holds.rawTurn (h : Holds w G T Ls) {w' : World} {j : Nat} {v v' : Value} {e bt : Nat} {K : Kd} {xs zs : List K.den} {cs : List Value} (hj : Ls[j]? = some (.raw v e bt K xs))
    (hrole : ∀ b, v.ownBlock = some b → G.role b = .loc)
    (hown : w'.ownsRow 0 e K.w v' zs.length cs) (hrr : rowR (Kr G K) K.w zs cs) (hcap : capOK v' bt)
    (henv : w'.os = w.os ∧ w'.tape = w.tape ∧ w'.output = w.output)
    (hv' : (v'.ownBlock = v.ownBlock ∧ w'.heap.size = w.heap.size ∧ ∀ b, v.ownBlock ≠ some b → w'.heap[b]? = w.heap[b]?) ∨
      (v'.ownBlock = some w.heap.size ∧ w'.heap.size = w.heap.size + 1 ∧ ∀ b, b ≠ w.heap.size → w'.heap[b]? = w.heap[b]?)) :
    ∃ G', G.le G' ∧ Holds w' G' T (Ls.set j (.raw v' e bt K zs)) ∧ ∀ b, G.role b ≠ .free → G'.role b = G.role b := by
  rcases hv' with ⟨h1, h2, h3⟩ | ⟨h1, h2, h3⟩
  · refine ⟨G, Gh.le_refl G, ?_, fun _ _ => rfl⟩
    have hno : ∀ b, G.role b ≠ .loc → v.ownBlock ≠ some b := fun b hb he => hb (hrole b he)
    refine h.change (fun b => v.ownBlock = some b) (Gh.le_refl G) henv (fun b hb => h.free b (by omega)) (fun b hb => ⟨h3 b hb, rfl⟩) (fun b hb => by unfold BlockOK; rw [hrole b hb]; trivial) ?_ ?_ ?_ h.ex h.inj h.finj h.fex
    · intro b t i _ _ tab x cs' k1 k2 k3
      refine ⟨tab, x, k1, k2, ObjR_keep (w := w) (L := Ls) (Gh.le_refl G) (holeAt_set hj (fun _ _ _ => rfl) (fun _ _ _ => rfl) t i) (fun b f hb => ⟨h3 b (hno b ?_), rfl⟩) k3⟩
      rcases hb with hb | ⟨p, hb⟩ <;> rw [hb] <;> simp
    · have ho : LSR w' G (.raw v' e bt K zs) := ⟨cs, hown, hrr, hcap, fun b hb => hrole b (by rw [← h1]; exact hb)⟩
      intro l hl
      cases hb : v.ownBlock with
      | none =>
        rw [hb] at h3
        rcases List.mem_or_eq_of_mem_set hl with hl | rfl
        · exact LSR_keep (Gh.le_refl G) (fun b _ => ⟨h3 b (by simp), rfl⟩) (h.loc l hl)
        · exact ho
      | some g =>
        rw [hb] at h3
        rcases mem_set_other hj hb h.nd hl with rfl | ⟨hl, hne⟩
        · exact ho
        · exact LSR_keep (Gh.le_refl G) (fun b hb' => ⟨h3 b (fun he => by simp at he; subst he; exact hne hb'), rfl⟩) (h.loc l hl)
    · refine nodup_set hj ?_ h.nd
      simp only [LS.blk, h1]
  · have hle : G.le (G.set w.heap.size .loc) := Gh.le_new h _
    have hs : ∀ b, b ≠ w.heap.size → w'.heap[b]? = w.heap[b]? ∧ (G.set w.heap.size .loc).role b = G.role b := fun b hb => ⟨h3 b hb, Gh.set_ne _ _ hb⟩
    have hrf : ∀ b, G.role b ≠ .free → b ≠ w.heap.size := fun b hb he => hb (h.free b (by omega))
    have ho : LSR w' (G.set w.heap.size .loc) (.raw v' e bt K zs) := ⟨cs, hown, rowR_mono (fun x cs hx => Kr_mono hle hx) hrr, hcap, fun b hb => by rw [h1] at hb; simp at hb; subst hb; exact Gh.set_same _ _ _⟩
    refine ⟨_, hle, ?_, fun b hb => Gh.set_ne _ _ (hrf b hb)⟩
    refine h.change (fun b => b = w.heap.size) hle henv (fun b hb => ?_) (fun b hb => hs b hb) (fun b hb => ?_) ?_ ?_ ?_ ?_ ?_ ?_ ?_
    · rw [Gh.set_ne _ _ (by omega)]; exact h.free b (by omega)
    · subst hb; unfold BlockOK; rw [Gh.set_same]; trivial
    · intro b t i hb1 hb2 tab x cs' k1 k2 k3
      refine ⟨tab, x, k1, k2, ObjR_keep (w := w) (L := Ls) hle (holeAt_set hj (fun _ _ _ => rfl) (fun _ _ _ => rfl) t i) (fun b f hb => hs b (hrf b ?_)) k3⟩
      rcases hb with hb | ⟨p, hb⟩ <;> rw [hb] <;> simp
    · intro l hl
      rcases List.mem_or_eq_of_mem_set hl with hl | rfl
      · exact LSR_keep hle (fun b hb' => hs b (by have := h.blk_lt hl hb'; omega)) (h.loc l hl)
      · exact ho
    · exact nodup_set_new Ls j _ _ (fun m hm b hb => h.blk_lt hm hb) (by simpa [LS.blk] using h1) hj h.nd
    · intro t tab i k1 k2
      obtain ⟨b, hb⟩ := h.ex t tab i k1 k2
      exact ⟨b, by rw [Gh.set_ne _ _ (hrf b (by rw [hb]; simp))]; exact hb⟩
    · intro b b' t i k1 k2
      have n1 : b ≠ w.heap.size := fun he => by subst he; rw [Gh.set_same] at k1; simp at k1
      have n2 : b' ≠ w.heap.size := fun he => by subst he; rw [Gh.set_same] at k2; simp at k2
      rw [Gh.set_ne _ _ n1] at k1; rw [Gh.set_ne _ _ n2] at k2
      exact h.inj b b' t i k1 k2
    · intro b b' t i f k1 k2
      have n1 : b ≠ w.heap.size := fun he => by subst he; rw [Gh.set_same] at k1; simp at k1
      have n2 : b' ≠ w.heap.size := fun he => by subst he; rw [Gh.set_same] at k2; simp at k2
      rw [Gh.set_ne _ _ n1] at k1; rw [Gh.set_ne _ _ n2] at k2
      exact h.finj b b' t i f k1 k2
    · intro b t i f k1
      have n1 : b ≠ w.heap.size := fun he => by subst he; rw [Gh.set_same] at k1; simp at k1
      rw [Gh.set_ne _ _ n1] at k1
      exact h.fex b t i f k1

def appRE (P : Program) (ops : Array Oper) (E : Env) (i : Nat) (K : Kd) (bt : Nat) : Option (En × En × TypeId × Option Nat) :=
  match ops[i]? with
  | some o => (match goes ops (look E []) o, o.op with
    | true, .call c => (match c.callee, c.args.toList, c.argTypes.toList with
      | .builtin .append, [s, x], [t, u] => (match Nat.beq t u, P.underlying t, opnd (look E []) [] s, opnd (look E []) [] x with
        | true, some (.slice el), some es, some ex => (match P.info? el with
          | some inf => (match infOK inf K bt with
            | true => some (es, ex, el, o.dst)
            | false => none)
          | none => none)
        | _, _, _, _ => none)
      | _, _, _ => none)
    | _, _ => none)
  | none => none

/-- An append of given elements onto an unseen list. -/
theorem stepAppR (j : Nat) {v : Value} {bt : Nat} {K : Kd} {xs ys : List K.den} {e' : TypeId} {d : Option Nat} {i : Nat} (hE : EnvR G N a E) (hH : Holds w G T Ls)
    (hb : appRE P ops E i K bt = some (.val v, .pl K ys, e', d)) (hj : Ls[j]? = some (.raw v e' bt K xs)) (hd : dstOK d N = true) (hq : (xs.length + ys.length) * bt ≤ 140737488355328)
    (k : ∀ v' a' w' G', G.le G' → EnvR G' N a' (putE d (.val v') E) → Holds w' G' T (Ls.set j (.raw v' e' bt K (xs ++ ys))) → (∀ b t' i' f', G.role b = .fld t' i' f' → w'.heap[b]? = w.heap[b]?) → (∀ b, G.role b ≠ .free → G'.role b = G.role b) → wpFrom P ops Q (i + 1) a' w') : wpFrom P ops Q i a w := by
  unfold appRE at hb
  split at hb
  · rename_i o ho
    split at hb
    · rename_i c hg hop
      split at hb
      · rename_i s x t u hcal hargs hts
        split at hb
        · rename_i el es ex htu hu hs hx
          split at hb
          · rename_i inf hinf
            have hok : infOK inf K bt = true := by
              cases hq : infOK inf K bt with
              | true => rfl
              | false => rw [hq] at hb; simp at hb
            rw [hok] at hb
            simp only [Option.some.injEq, Prod.mk.injEq] at hb
            obtain ⟨rfl, rfl, rfl, rfl⟩ := hb
            have htu' := Nat.eq_of_beq_eq_true htu
            subst htu'
            have hsv : a.eval s = v := opnd_ok (CurR_start hE) (by simp) hs
            have hv2 := opnd_ok (CurR_start hE) (by simp) hx
            obtain ⟨b, cc, ty, nn, hxv, hnn, hbr, hcs, hone, hrow⟩ := hv2
            obtain ⟨cs, o1, o2, o3, o4⟩ := hH.loc _ (List.mem_of_getElem? hj)
            have hblk : w.heap[b]? = some (.cells cc ty (0, 0)) := by
              have := hH.block b; unfold BlockOK at this; rw [hbr] at this; exact this
            have hop' : o.op = .call { callee := .builtin .append, args := #[s, x], argTypes := #[t, t] } := by
              rw [hop]
              congr 1
              cases c with
              | mk ca ar at_ =>
                simp only at hcal hargs hts
                subst hcal
                congr 1
                · rw [← hargs]
                · rw [← hts]
            have hcell : ∀ jj uu, cc.toList[jj]? = some uu → w.cell? ((⟨b, 0, none⟩ : Addr).add jj) = some uu := fun jj uu hq => by
              rw [addr_add, cell_at hblk, Nat.zero_add]; simpa using hq
            rcases append_core (P := P) (w := w) (ty := o.type) (bt := bt) hu hinf hok o1 o3 ⟨b, 0, none⟩ ys.length nn (by simpa using hcs) hcell hone hq with ⟨v', w', hr, h2, h3, h4, h5⟩
            · have hlen : (xs ++ ys).length = xs.length + ys.length := by simp
              rw [← hlen] at h2
              obtain ⟨G', hle, hH', hro⟩ := hH.rawTurn hj o4 h2 (rowR_app o2 o1.1 hrow) h3 h4 h5
              refine wpFrom_value ho (goes_ok (CurR_start hE) hg) (v := v') (w' := w') ?_ (k v' _ _ G' hle ((hE.mono hle).putO hd rfl) hH' ?_ hro)
              · simp only [execOp, hop', resolve, invoke, builtin, Sem.run_bind, Sem.run_pure, Result.andThen_ok, List.map_toArray, List.map_cons, List.map_nil, hsv, hxv, hr]
              · intro b1 t1 i1 f1 hb1
                rcases h5 with ⟨_, _, h5⟩ | ⟨_, _, h5⟩
                · exact h5 b1 (fun hq => by rw [o4 _ hq] at hb1; simp at hb1)
                · exact h5 b1 (fun hq => by rw [hH.free b1 (by omega)] at hb1; simp at hb1)
          · simp at hb
        · simp at hb
      · simp at hb
    · simp at hb
  · simp at hb
end
end Go.Proofs.Ytlfemhkabjafeaa.M
