/- Own texts, laid together: B28 SR XF SQ XH T8 YD Q9. -/
import Derived.Laws.IdiomStrings
import Derived.Test.YtlfemhkabjafeaaProg
import Derived.Test.YtlfemhkabjafeaaZ1
import Derived.Test.YtlfemhkabjafeaaZ2
import Derived.Test.YtlfemhkabjafeaaZ3
import Derived.Test.YtlfemhkabjafeaaZ4
import Derived.Test.YtlfemhkabjafeaaZ5
/- Own library, part 28: a text's bytes that grow. -/
set_option linter.unusedVariables false
set_option linter.unusedSimpArgs false
namespace Go.Proofs.Ytlfemhkabjafeaa.M

section
variable {P : Program} {w : World} {G : Gh} {T T' : Tabs} {Ls : List LS} {a : Act} {N : Nat} {E : Env} {ops : Array Oper} {Q : Exit → Act → World → Prop}

theorem Holds.drew (h : Holds w G T Ls) : Holds w.drew G T Ls := by
  refine h.change (fun _ => False) (Gh.le_refl G) ⟨rfl, rfl, rfl⟩ h.free (fun b _ => ⟨rfl, rfl⟩) (fun _ hb => hb.elim) ?_ ?_ h.nd h.ex h.inj h.finj h.fex
  · intro b t i _ _ tab x cs h1 h2 h3
    exact ⟨tab, x, h1, h2, ObjR_keep (w := w) (w' := w.drew) (L := Ls) (Gh.le_refl G) (fun f => rfl) (fun _ _ _ => ⟨rfl, rfl⟩) h3⟩
  · intro l hl
    exact LSR_keep (Gh.le_refl G) (fun b _ => ⟨rfl, rfl⟩) (h.loc l hl)

def cvsE (P : Program) (ops : Array Oper) (E : Env) (i : Nat) : Option (TypeId × List UInt8 × Option Nat) :=
  match ops[i]? with
  | some o => (match goes ops (look E []) o, o.op with
    | true, .convert s t x => (match P.underlying s, P.underlying t, opnd (look E []) [] x with
      | some .string, some (.slice el), some (.kv .str y) => (match P.underlying el with
        | some (.int .u8) => some (el, y, o.dst)
        | _ => none)
      | _, _, _ => none)
    | _, _ => none)
  | none => none

/-- A text's bytes, as numbers. -/
def nums8 (s : List UInt8) : List Int := s.map (fun c => (c.toNat : Int))

/-- The bytes of a text, as a list of the call's own. -/
theorem stepCnvS {e : TypeId} {y : List UInt8} {d : Option Nat} {i : Nat} (hE : EnvR G N a E) (hH : Holds w G T Ls) (hb : cvsE P ops E i = some (e, y, d)) (hd : dstOK d N = true) (hl : y.length ≤ 140737488355328)
    (k : ∀ v a' w' G', G.le G' → EnvR G' N a' (putE d (.val v) E) → Holds w' G' T (.sby v e (nums8 y) :: Ls) → wpFrom P ops Q (i + 1) a' w') : wpFrom P ops Q i a w := by
  unfold cvsE at hb
  split at hb
  · rename_i o ho
    split at hb
    · rename_i s t x hg hop
      split at hb
      · rename_i el y' hs ht hx
        split at hb
        · rename_i hu
          simp only [Option.some.injEq, Prod.mk.injEq] at hb
          obtain ⟨rfl, rfl, rfl⟩ := hb
          have hv := unS (opnd_ok (CurR_start hE) (by simp) hx)
          have hrun := run_bytes_of_string (P := P) w s t el ⟨y'.toArray⟩ hs ht hu
          have hsz : (⟨y'.toArray⟩ : ByteArray).size = y'.length := by simp [ByteArray.size]
          rw [hsz] at hrun
          have hge := grownCap_ge w y'.length 0 el
          have hmx := grownCap_le_maxLen w y'.length 0 el (by simp only [maxLen]; omega)
          have hcur : (bytesRow ⟨y'.toArray⟩ (grownCap w y'.length 0 el)).size = grownCap w y'.length 0 el := by
            simp [bytesRow, ByteArray.size]; omega
          have hH2 := hH.drew
          let O : Obj := .cells (bytesRow ⟨y'.toArray⟩ (grownCap w y'.length 0 el)) el ((bytesRow ⟨y'.toArray⟩ (grownCap w y'.length 0 el)).size, (bytesRow ⟨y'.toArray⟩ (grownCap w y'.length 0 el)).size + 1)
          refine wpFrom_value ho (goes_ok (CurR_start hE) hg) (v := .slice (some ⟨w.heap.size, 0, none⟩) y'.length (grownCap w y'.length 0 el)) (w' := w.drew.alloc O) ?_
            (k _ _ _ _ (Gh.le_new hH2 .loc) ((hE.mono (Gh.le_new hH2 .loc)).putO hd rfl) (hH2.allocLoc O .loc (.sby (.slice (some ⟨w.heap.size, 0, none⟩) y'.length (grownCap w y'.length 0 el)) el (nums8 y')) (.inl rfl) ?_ ?_ rfl (fun _ _ _ => rfl)))
          · simp only [execOp, hop, hv]
            exact run_val hrun
          · unfold BlockOK
            have e : w.drew.heap.size = w.heap.size := rfl
            rw [e, Gh.set_same]; trivial
          · have hlen : (nums8 y').length = y'.length := by simp [nums8]
            refine ⟨w.heap.size, _, _, _, by rw [hlen], heap_alloc_new' w.drew _, .inr ?_, by rw [hlen]; exact hge, hmx, hcur, ?_, Gh.set_same _ _ _⟩
            · exact Nat.le_refl _
            · rw [hlen]
              simp [bytesRow, nums8]
        · cases hb
      · cases hb
    · cases hb
  · cases hb

/-- 'run_storeCells_at', where nothing of the row's own cells is frozen. -/
theorem run_storeCells_T (P : Program) (g o : Nat) (t : TypeId) (fz : Nat × Nat) : ∀ (vs : List Value) (i : Nat) (cur : Array Value) (w : World), w.heap[g]? = some (.cells cur t fz) → (fz.2 = 0 ∨ cur.size ≤ fz.1) → o + i + vs.length ≤ cur.size → (∀ v ∈ vs, v.oneCell' = true) →
    (storeCells ⟨g, o, none⟩ vs i).run P w = .ok () (w.setRow g (cur.toList.take (o + i) ++ vs ++ cur.toList.drop (o + i + vs.length)).toArray)
  | [], i, cur, w, hg, _, _, _ => by
    simp only [storeCells, List.append_nil, List.length_nil, Nat.add_zero, List.take_append_drop, Array.toArray_toList]
    rw [setRow_self w g cur t fz hg]
    rfl
  | v :: rest, i, cur, w, hg, hfz, hl, h1 => by
    have hi : o + i < cur.size := by simp at hl; omega
    have hadd : (⟨g, o, none⟩ : Addr).add i = ⟨g, o + i, none⟩ := by unfold Addr.add; split <;> simp_all
    have hcell : w.cell? ⟨g, o + i, none⟩ = some cur[o + i] := by simp [World.cell?, hg, hi]
    have hfro : w.frozen? ⟨g, o + i, none⟩ = false := by
      obtain ⟨lo, hi'⟩ := fz
      simp only [World.frozen?, hg, Bool.and_eq_false_iff, decide_eq_false_iff_not]
      simp only at hfz
      rcases hfz with hfz | hfz
      · right; omega
      · left; omega
    have hst : (store ((⟨g, o, none⟩ : Addr).add i) v).run P w = .ok () (w.setRow g (cur.setIfInBounds (o + i) v)) := by
      rw [hadd, run_store P w _ v _ (h1 v (by simp)), hcell]
      simp [hfro, setCell_eq_setRow w g (o + i) cur t fz v hg]
    have ih := run_storeCells_T P g o t fz rest (i + 1) (cur.setIfInBounds (o + i) v) (w.setRow g (cur.setIfInBounds (o + i) v)) (setRow_heap w g cur _ t _ hg) (by simpa using hfz) (by simp at hl ⊢; omega) (fun x hx => h1 x (by simp [hx]))
    simp only [storeCells, Sem.run_bind, hst, Result.andThen_ok, ih, setRow_setRow]
    congr 3
    have e := list_seg_step cur.toList (o + i) v rest (by simp at hl ⊢; omega)
    simpa [Array.toList_setIfInBounds, Nat.add_assoc] using e

/-- The bytes turn: in their own block, or into a new one. -/
theorem Holds.sbyTurn (h : Holds w G T Ls) {w' : World} {j g : Nat} {v v' : Value} {e : Nat} {xs zs : List Int} (hj : Ls[j]? = some (.sby v e xs)) (hvb : v.ownBlock = some g) (hrole : G.role g = .loc)
    (hok : ∀ G' : Gh, (∀ b, v'.ownBlock = some b → G'.role b = .loc) → LSR w' G' (.sby v' e zs))
    (henv : w'.os = w.os ∧ w'.tape = w.tape ∧ w'.output = w.output)
    (hv' : (v'.ownBlock = v.ownBlock ∧ w'.heap.size = w.heap.size ∧ ∀ b, v.ownBlock ≠ some b → w'.heap[b]? = w.heap[b]?) ∨
      (v'.ownBlock = some w.heap.size ∧ w'.heap.size = w.heap.size + 1 ∧ ∀ b, b ≠ w.heap.size → w'.heap[b]? = w.heap[b]?)) :
    ∃ G', G.le G' ∧ Holds w' G' T (Ls.set j (.sby v' e zs)) := by
  rcases hv' with ⟨h1, h2, h3⟩ | ⟨h1, h2, h3⟩
  · refine ⟨G, Gh.le_refl G, ?_⟩
    have hno : ∀ b, G.role b ≠ .loc → v.ownBlock ≠ some b := fun b hb he => hb (by rw [hvb] at he; simp at he; subst he; exact hrole)
    have ho : LSR w' G (.sby v' e zs) := hok G (fun b hb => by rw [h1, hvb] at hb; simp at hb; subst hb; exact hrole)
    refine h.change (fun b => v.ownBlock = some b) (Gh.le_refl G) henv (fun b hb => h.free b (by omega)) (fun b hb => ⟨h3 b hb, rfl⟩) (fun b hb => by unfold BlockOK; rw [hvb] at hb; simp at hb; subst hb; rw [hrole]; trivial) ?_ ?_ ?_ h.ex h.inj h.finj h.fex
    · intro b t i _ _ tab x cs' k1 k2 k3
      refine ⟨tab, x, k1, k2, ObjR_keep (w := w) (L := Ls) (Gh.le_refl G) (holeAt_set hj (fun _ _ _ => rfl) (fun _ _ _ => rfl) t i) (fun b f hb => ⟨h3 b (hno b ?_), rfl⟩) k3⟩
      rcases hb with hb | ⟨p, hb⟩ <;> rw [hb] <;> simp
    · intro l hl
      rw [hvb] at h3
      rcases mem_set_other hj (show LS.blk (.sby v e xs) = some g from hvb) h.nd hl with rfl | ⟨hl, hne⟩
      · exact ho
      · exact LSR_keep (Gh.le_refl G) (fun b hb' => ⟨h3 b (fun he => by simp at he; subst he; exact hne hb'), rfl⟩) (h.loc l hl)
    · refine nodup_set hj ?_ h.nd
      simp only [LS.blk, h1]
  · have hle : G.le (G.set w.heap.size .loc) := Gh.le_new h _
    have hs : ∀ b, b ≠ w.heap.size → w'.heap[b]? = w.heap[b]? ∧ (G.set w.heap.size .loc).role b = G.role b := fun b hb => ⟨h3 b hb, Gh.set_ne _ _ hb⟩
    have hrf : ∀ b, G.role b ≠ .free → b ≠ w.heap.size := fun b hb he => hb (h.free b (by omega))
    have ho : LSR w' (G.set w.heap.size .loc) (.sby v' e zs) := hok _ (fun b hb => by rw [h1] at hb; simp at hb; subst hb; exact Gh.set_same _ _ _)
    refine ⟨_, hle, ?_⟩
    refine h.change (fun b => b = w.heap.size) hle henv (fun b hb => ?_) (fun b hb => hs b hb) (fun b hb => ?_) ?_ ?_ ?_ ?_ ?_ ?_ ?_
    · rw [Gh.set_ne _ _ (by omega)]; exact h.free b (by omega)
    · subst hb; unfold BlockOK; rw [Gh.set_same]; trivial
    · intro b t i hb1 hb2 tab x cs' k1 k2 k3
      refine ⟨tab, x, k1, k2, ObjR_keep (w := w) (L := Ls) hle (holeAt_set hj (fun _ _ _ => rfl) (fun _ _ _ => rfl) t i) (fun b f hb => hs b (hrf b ?_)) k3⟩
      rcases hb with hb | ⟨p, hb⟩ <;> rw [hb] <;> simp
    · intro l hl
      rcases List.mem_or_eq_of_mem_set hl with hl | rfl
      · exact LSR_keep hle (fun b hb' => hs b (by have := h.blk_lt hl hb'; omega)) (h.loc l hl)
      · exact ho
    · exact nodup_set_new Ls j _ _ (fun m hm b hb => h.blk_lt hm hb) (by simpa [LS.blk] using h1) hj h.nd
    · intro t tab i k1 k2
      obtain ⟨b, hb⟩ := h.ex t tab i k1 k2
      exact ⟨b, by rw [Gh.set_ne _ _ (hrf b (by rw [hb]; simp))]; exact hb⟩
    · intro b b' t i k1 k2
      have n1 : b ≠ w.heap.size := fun he => by subst he; rw [Gh.set_same] at k1; simp at k1
      have n2 : b' ≠ w.heap.size := fun he => by subst he; rw [Gh.set_same] at k2; simp at k2
      rw [Gh.set_ne _ _ n1] at k1; rw [Gh.set_ne _ _ n2] at k2
      exact h.inj b b' t i k1 k2
    · intro b b' t i f k1 k2
      have n1 : b ≠ w.heap.size := fun he => by subst he; rw [Gh.set_same] at k1; simp at k1
      have n2 : b' ≠ w.heap.size := fun he => by subst he; rw [Gh.set_same] at k2; simp at k2
      rw [Gh.set_ne _ _ n1] at k1; rw [Gh.set_ne _ _ n2] at k2
      exact h.finj b b' t i f k1 k2
    · intro b t i f k1
      have n1 : b ≠ w.heap.size := fun he => by subst he; rw [Gh.set_same] at k1; simp at k1
      rw [Gh.set_ne _ _ n1] at k1
      exact h.fex b t i f k1

theorem row8 : ∀ {G : Gh} {ys : List Int} {cs : List Value}, rowR (Kr G (.int .u8)) 1 ys cs → cs.take ys.length = ys.map (Value.int .u8)
  | G, [], cs, _ => by simp
  | G, y :: ys, cs, ⟨h1, h2, h3⟩ => by
    have h2' : cs.take 1 = [.int .u8 y] := h2
    have ih := row8 h3
    cases cs with
    | nil => simp at h2'
    | cons c r =>
      simp only [List.take_succ_cons, List.take_zero, List.cons.injEq, and_true] at h2'
      subst h2'
      simp only [List.length_cons, List.take_succ_cons, List.map_cons]
      simp only [List.drop_succ_cons, List.drop_zero] at ih
      rw [ih]

/-- An append of given bytes. -/
theorem stepAppS (j : Nat) {v : Value} {xs ys : List Int} {e' : TypeId} {d : Option Nat} {i : Nat} (hE : EnvR G N a E) (hH : Holds w G T Ls)
    (hb : appRE P ops E i (.int .u8) 1 = some (.val v, .pl (.int .u8) ys, e', d)) (hj : Ls[j]? = some (.sby v e' xs)) (hd : dstOK d N = true) (hq : (xs.length + ys.length) * 1 ≤ 140737488355328)
    (k : ∀ v' a' w' G', G.le G' → EnvR G' N a' (putE d (.val v') E) → Holds w' G' T (Ls.set j (.sby v' e' (xs ++ ys))) → wpFrom P ops Q (i + 1) a' w') : wpFrom P ops Q i a w := by
  unfold appRE at hb
  split at hb
  · rename_i o ho
    split at hb
    · rename_i c hg hop
      split at hb
      · rename_i s x t u hcal hargs hts
        split at hb
        · rename_i el es ex htu hu hs hx
          split at hb
          · rename_i inf hinf
            have hok : infOK inf (.int .u8) 1 = true := by
              cases hq : infOK inf (.int .u8) 1 with
              | true => rfl
              | false => rw [hq] at hb; simp at hb
            rw [hok] at hb
            simp only [Option.some.injEq, Prod.mk.injEq] at hb
            obtain ⟨rfl, rfl, rfl, rfl⟩ := hb
            have htu' := Nat.eq_of_beq_eq_true htu
            subst htu'
            have hsv : a.eval s = v := opnd_ok (CurR_start hE) (by simp) hs
            have hv2 := opnd_ok (CurR_start hE) (by simp) hx
            obtain ⟨b, cc, ty, nn, hxv, hnn, hbr, hcs, hone, hrow⟩ := hv2
            obtain ⟨g, cap, cur, fz, rfl, o1, o2, o3, o4, o5, o6, o7⟩ := hH.loc _ (List.mem_of_getElem? hj)
            have hblk : w.heap[b]? = some (.cells cc ty (0, 0)) := by
              have := hH.block b; unfold BlockOK at this; rw [hbr] at this; exact this
            have hop' : o.op = .call { callee := .builtin .append, args := #[s, x], argTypes := #[t, t] } := by
              rw [hop]
              congr 1
              cases c with
              | mk ca ar at_ =>
                simp only at hcal hargs hts
                subst hcal
                congr 1
                · rw [← hargs]
                · rw [← hts]
            have hcell : ∀ jj uu, cc.toList[jj]? = some uu → w.cell? ((⟨b, 0, none⟩ : Addr).add jj) = some uu := fun jj uu hq => by
              rw [addr_add, cell_at hblk, Nat.zero_add]; simpa using hq
            unfold infOK at hok
            simp only [Bool.and_eq_true] at hok
            obtain ⟨k1, k2, k3, k4, k5⟩ := hok
            have hsize : inf.size = 1 := Nat.eq_of_beq_eq_true k1
            have hby : inf.bytes = 1 := Nat.eq_of_beq_eq_true k2
            have hcs' : cc.toList.length = ys.length := by
              have h1 : cc.size = ys.length * 1 := hcs
              have h2 : cc.toList.length = cc.size := Array.length_toList
              omega
            have hcc : cc.toList = ys.map (Value.int .u8) := by
              have := row8 hrow
              rw [← hcs', List.take_length] at this
              exact this
            have hcl : cur.toList.length = cur.size := Array.length_toList
            have hxl : xs.length ≤ cur.toList.length := by omega
            have hbg : ∀ b', (Value.slice (some ⟨g, 0, none⟩) xs.length cap).ownBlock = some b' → b' = g := fun b' hb' => by simp [Value.ownBlock] at hb'; exact hb'.symm
            by_cases hfit : xs.length + ys.length ≤ cap
            · have hf := run_firstCells_some (P := P) w inf.size ys.length ⟨b, 0, none⟩ ys.length nn cc.toList (by rw [hsize]; omega) hcell
              have hst := run_storeCells_T P g (xs.length * inf.size) el fz cc.toList 0 cur w o1 o2 (by rw [hsize]; omega) hone
              simp only [Nat.add_zero] at hst
              rw [hsize, Nat.mul_one] at hst
              have hr : (Builtin.append_ #[t, t] o.type #[.slice (some ⟨g, 0, none⟩) xs.length cap, .slice (some ⟨b, 0, none⟩) ys.length nn]).run P w =
                  .ok (.slice (some ⟨g, 0, none⟩) (xs.length + ys.length) cap) (w.setRow g (cur.toList.take xs.length ++ cc.toList ++ cur.toList.drop (xs.length + cc.toList.length)).toArray) := by
                simp only [hsize] at hf
                simp [Builtin.append_, run_underlying hu, sizeOf, typeInfo, hinf, hsize, Builtin.lenOf, hfit, hf, Addr.add_lit, hst]
              obtain ⟨G', hle, hH'⟩ := hH.sbyTurn (w' := w.setRow g (cur.toList.take xs.length ++ cc.toList ++ cur.toList.drop (xs.length + cc.toList.length)).toArray) (v' := .slice (some ⟨g, 0, none⟩) (xs.length + ys.length) cap) (zs := xs ++ ys) hj rfl o7 (fun G' hG' => by
                refine ⟨g, cap, _, fz, by rw [List.length_append], setRow_heap w g cur _ el _ o1, ?_, by rw [List.length_append]; exact hfit, o4, ?_, ?_, hG' g rfl⟩
                · rcases o2 with o2 | o2
                  · exact .inl o2
                  · right
                    simp only [List.size_toArray, List.length_append, List.length_take, List.length_drop]
                    omega
                · simp only [List.size_toArray, List.length_append, List.length_take, List.length_drop]
                  omega
                · rw [List.length_append, List.map_append, o6, hcc, List.take_append_of_le_length (by simp)]
                  rw [List.take_of_length_le (by simp)]) ⟨rfl, rfl, rfl⟩ (.inl ⟨rfl, by simp, fun b' hb' => setRow_other w g b' _ (fun e => hb' (by rw [e]; rfl))⟩)
              refine wpFrom_value ho (goes_ok (CurR_start hE) hg) (v := _) (w' := _) ?_ (k _ _ _ G' hle ((hE.mono hle).putO hd rfl) hH')
              simp only [execOp, hop', resolve, invoke, builtin, Sem.run_bind, Sem.run_pure, Result.andThen_ok, List.map_toArray, List.map_cons, List.map_nil, hsv, hxv, hr]
            · cases hz : inf.zero with
              | none => rw [hz] at k5; simp at k5
              | some z =>
                rw [hz] at k5
                have hzs : z.cells.size = 1 := Nat.eq_of_beq_eq_true k5
                have hold : ∀ jj uu, (xs.map (Value.int .u8))[jj]? = some uu → w.cell? ((⟨g, 0, none⟩ : Addr).add jj) = some uu := fun jj uu hq2 => by
                  rw [addr_add, cell_at o1, Nat.zero_add, ← Array.getElem?_toList]
                  rw [← o6] at hq2
                  have hjl := (List.getElem?_eq_some_iff.1 hq2).1
                  rw [List.length_take] at hjl
                  rw [List.getElem?_take_of_lt (by omega)] at hq2
                  exact hq2
                have hr := run_append_grow (P := P) w t o.type el inf z hu hinf hz ⟨g, 0, none⟩ xs.length cap (xs.map (Value.int .u8)) (by rw [hsize]; simp) hold ⟨b, 0, none⟩ ys.length nn cc.toList (by rw [hsize]; omega) hcell (by omega) (by omega) (growslice_fits (by omega) (by rw [hby]; exact hq))
                have hge := grownCap_ge w (xs.length + ys.length) cap el
                have hmx := grownCap_le_maxLen w (xs.length + ys.length) cap el (by simp only [maxLen]; omega)
                obtain ⟨G', hle, hH'⟩ := hH.sbyTurn (v' := .slice (some ⟨w.heap.size, 0, none⟩) (xs.length + ys.length) (grownCap w (xs.length + ys.length) cap el)) (zs := xs ++ ys) (w' := w.drew.alloc (.cells ((xs.map (Value.int .u8)).toArray ++ cc.toList.toArray ++ Builtin.zeroCells z.cells (grownCap w (xs.length + ys.length) cap el - (xs.length + ys.length))) el)) hj rfl o7 (fun G' hG' => by
                  refine ⟨w.heap.size, _, _, (0, 0), by rw [List.length_append], heap_alloc_new' w.drew _, .inl rfl, by rw [List.length_append]; exact hge, hmx, ?_, ?_, hG' _ rfl⟩
                  · rw [Array.size_append, Array.size_append, size_zeroCells, hzs]
                    simp only [List.size_toArray, List.length_map]
                    omega
                  · rw [List.length_append, List.map_append, hcc]
                    simp only [Array.toList_append]
                    rw [List.take_append_of_le_length (by simp)]
                    rw [List.take_of_length_le (by simp)]) ⟨rfl, rfl, rfl⟩ (.inr ⟨rfl, by simp, fun b' hb' => heap_alloc_ne w.drew _ (by simpa using hb')⟩)
                refine wpFrom_value ho (goes_ok (CurR_start hE) hg) (v := _) (w' := _) ?_ (k _ _ _ G' hle ((hE.mono hle).putO hd rfl) hH')
                simp only [execOp, hop', resolve, invoke, builtin, Sem.run_bind, Sem.run_pure, Result.andThen_ok, List.map_toArray, List.map_cons, List.map_nil, hsv, hxv, hr]
          · simp at hb
        · simp at hb
      · simp at hb
    · simp at hb
  · simp at hb

def cnsE (P : Program) (ops : Array Oper) (E : Env) (i : Nat) : Option (Value × Option Nat) :=
  match ops[i]? with
  | some o => (match goes ops (look E []) o, o.op with
    | true, .convert s t x => (match P.underlying s, P.underlying t, opnd (look E []) [] x with
      | some (.slice el), some .string, some (.val v) => (match P.underlying el with
        | some (.int .u8) => some (v, o.dst)
        | _ => none)
      | _, _, _ => none)
    | _, _ => none)
  | none => none

/-- The bytes, as a text. -/
theorem stepCnS (j : Nat) {v : Value} {e : TypeId} {xs : List Int} {d : Option Nat} {i : Nat} (hE : EnvR G N a E) (hH : Holds w G T Ls) (hb : cnsE P ops E i = some (v, d)) (hj : Ls[j]? = some (.sby v e xs)) (hd : dstOK d N = true)
    (k : ∀ a', EnvR G N a' (putE d (.kv .str (bytesS xs)) E) → wpFrom P ops Q (i + 1) a' w) : wpFrom P ops Q i a w := by
  unfold cnsE at hb
  split at hb
  · rename_i o ho
    split at hb
    · rename_i s t y hg hop
      split at hb
      · rename_i el v' hs ht hx
        split at hb
        · rename_i hu
          simp only [Option.some.injEq, Prod.mk.injEq] at hb
          obtain ⟨rfl, rfl⟩ := hb
          have h1 := opnd_ok (CurR_start hE) (by simp) hx
          simp only [EnR] at h1
          obtain ⟨g, cap, cur, fz, rfl, o1, o2, o3, o4, o5, o6, o7⟩ := hH.loc _ (List.mem_of_getElem? hj)
          refine wpFrom_value ho (goes_ok (CurR_start hE) hg) (v := .string ⟨(bytesS xs).toArray⟩) (w' := w) ?_ (k _ (hE.putO hd mkS))
          simp only [execOp, hop, h1]
          refine run_val ?_
          unfold convert
          rw [run_und hs, run_und ht]
          simp only []
          rw [run_und hu]
          rw [bytesS_eq]
          have hrun := run_loadCells_list (P := P) w ⟨g, 0, none⟩ (xs.map (Value.int .u8)) (fun jj uu hq2 => by
            rw [addr_add, cell_at o1, Nat.zero_add, ← Array.getElem?_toList]
            rw [← o6] at hq2
            have hjl := (List.getElem?_eq_some_iff.1 hq2).1
            rw [List.length_take] at hjl
            rw [List.getElem?_take_of_lt (by omega)] at hq2
            exact hq2)
          rw [List.length_map] at hrun
          exact run_bytesToString w ⟨g, 0, none⟩ xs.length cap _ hrun
        · cases hb
      · cases hb
    · cases hb
  · cases hb
end
end Go.Proofs.Ytlfemhkabjafeaa.M

/- Printed by own program: twins and walks. -/
set_option linter.unusedVariables false
set_option maxRecDepth 100000
namespace Go.Proofs.Ytlfemhkabjafeaa.M
open Go.Proofs (Try.prog Try.func152 Try.f152 Try.func139 Try.f139 Try.func112 Try.f112 Try.func92 Try.f92 Try.func44 Try.f44)

def f152 (p0 : Int) : Option Int :=
  if ((Int.tmod p0 2) == 1) = true then
  some (IntKind.wrap .u32 ((BitVec.ofInt (IntKind.bits .u32) (IntKind.wrap .u32 (Int.tdiv p0 2)) ^^^ BitVec.ofInt (IntKind.bits .u32) 2197175160).toNat))
  else
  some (IntKind.wrap .u32 (Int.tdiv p0 2))

theorem f152_ok {p0 : Int} {σ : St} {p : Int} (h : f152 p0 = some p) : Spec Try.prog 152 [.kv (.int .u32) p0] (tabs σ) (.kv (.int .u32) p) (tabs σ) := by
  refine Spec.intro Try.func152 (by kernel_rfl) rfl (by kernel_rfl) (fun a w G0 Ls hE hH hN => ?_)
  have hle : G0.le G0 := Gh.le_refl G0
  unfold f152 at h
  refine wp_seq_k (fun K hK1 => ?_)
  refine wp_region_from ?_
  refine segO 1 [] [(2, .kv (.int .u32) 0)] (Os := []) trivial hE hH (by kernel_rfl) (fun a hE => ?_)
  refine wpFrom_end (by kernel_rfl) ?_
  refine Exit.then_normal (hK1 _ _ ?_)
  refine wp_seq_k (fun K hK2 => ?_)
  refine wp_seq_k (fun K hK3 => ?_)
  refine wp_region_from ?_
  refine segO 3 [] [(5, .kv .bool ((Int.tmod p0 2) == 1))] (Os := [_]) ⟨(by decide : (2 : Int) ≠ 0), trivial⟩ hE hH (by kernel_rfl) (fun a hE => ?_)
  refine wpFrom_end (by kernel_rfl) ?_
  refine Exit.then_normal (hK3 _ _ ?_)
  refine condE (b := (Int.tmod p0 2) == 1) hE (by kernel_rfl) (fun hc => ?_) (fun hc => ?_)
  · replace h := ifT hc h
    refine wp_seq_k (fun K hK4 => ?_)
    refine wp_region_from ?_
    refine segO 4 [] [(2, .kv (.int .u32) (IntKind.wrap .u32 ((BitVec.ofInt (IntKind.bits .u32) (IntKind.wrap .u32 (Int.tdiv p0 2)) ^^^ BitVec.ofInt (IntKind.bits .u32) 2197175160).toNat)))] (Os := [_]) ⟨(by decide : (2 : Int) ≠ 0), trivial⟩ hE hH (by kernel_rfl) (fun a hE => ?_)
    refine wpFrom_end (by kernel_rfl) ?_
    refine Exit.then_normal (hK4 _ _ ?_)
    refine wp_ret ?_
    refine Exit.then_ret ?_
    cases h
    exact ret1 rfl hE hle hH (by kernel_rfl)
  · replace h := ifF hc h
    refine wp_skip ?_
    refine Exit.then_normal (hK2 _ _ ?_)
    refine wp_seq_k (fun K hK5 => ?_)
    refine wp_region_from ?_
    refine segO 3 [] [(2, .kv (.int .u32) (IntKind.wrap .u32 (Int.tdiv p0 2)))] (Os := [_]) ⟨(by decide : (2 : Int) ≠ 0), trivial⟩ hE hH (by kernel_rfl) (fun a hE => ?_)
    refine wpFrom_end (by kernel_rfl) ?_
    refine Exit.then_normal (hK5 _ _ ?_)
    refine wp_ret ?_
    cases h
    exact ret1 rfl hE hle hH (by kernel_rfl)

def f139_l1  (x16 : Int) (x17 : Int) : Option (Int × Int) :=
  if (decide (x17 < 8)) = true then
  f152 x16 >>= fun r25 =>
  f139_l1 r25 (IntKind.wrap .i64 (x17 + 1))
  else
  some ((x16, x17))
  partial_fixpoint

def f139_l0 (p1 : List UInt8) (x4 : Int) (x5 : Int) : Option (Int × Int) :=
  if (decide (x5 < (p1.length : Int))) = true then
  if (0 : Int) ≤ x5 ∧ x5 < (p1.length : Int) then
  f139_l1  (IntKind.wrap .u32 ((BitVec.ofInt (IntKind.bits .u32) x4 ^^^ BitVec.ofInt (IntKind.bits .u32) (IntKind.wrap .u32 (btS p1 x5))).toNat)) 0 >>= fun z26 =>
  f139_l0 p1 z26.1 (IntKind.wrap .i64 (x5 + 1))
  else none
  else
  some ((x4, x5))
  partial_fixpoint

def f139 (p0 : Int) (p1 : List UInt8) : Option Int :=
  f139_l0 p1 p0 0 >>= fun z28 =>
  some z28.1

theorem f139_ok {p0 : Int} {p1 : List UInt8} {σ : St} {p : Int} (h : f139 p0 p1 = some p) : Spec Try.prog 139 [.kv (.int .u32) p0, .kv .str p1] (tabs σ) (.kv (.int .u32) p) (tabs σ) := by
  refine Spec.intro Try.func139 (by kernel_rfl) rfl (by kernel_rfl) (fun a w G0 Ls hE hH hN => ?_)
  have hle : G0.le G0 := Gh.le_refl G0
  unfold f139 at h
  refine wp_seq_k (fun K hK1 => ?_)
  refine wp_region_from ?_
  refine segO 1 [] [(4, .kv (.int .u32) 0)] (Os := []) trivial hE hH (by kernel_rfl) (fun a hE => ?_)
  refine wpFrom_end (by kernel_rfl) ?_
  refine Exit.then_normal (hK1 _ _ ?_)
  refine wp_seq_k (fun K hK2 => ?_)
  refine wp_seq_k (fun K hK3 => ?_)
  refine wp_region_from ?_
  refine segO 1 [] [(5, .kv .i 0)] (Os := []) trivial hE hH (by kernel_rfl) (fun a hE => ?_)
  refine wpFrom_end (by kernel_rfl) ?_
  refine Exit.then_normal (hK3 _ _ ?_)
  refine wp_block ?_
  obtain ⟨z28, hz28, h⟩ := bs h
  refine loop_intro (fun Q6 c hQ hc => ?_)
  have key : ∀ (x4 : Int) (x5 : Int) (rr : Int × Int), f139_l0 p1 x4 x5 = some rr → ∀ (a : Act) (w : World) (G : Gh), G0.le G → EnvR G 26 a [(0, .kv (.int .u32) x4), (1, .kv .str p1), (4, .kv (.int .u32) 0), (5, .kv .i x5)] → Holds w G (tabs σ) (Ls) → (∀ z29 : Int × Int, rr = z29 → ∀ (a : Act) (w : World) (G : Gh), G0.le G → EnvR G 26 a [(0, .kv (.int .u32) z29.1), (1, .kv .str p1), (4, .kv (.int .u32) 0), (5, .kv .i z29.2)] → Holds w G (tabs σ) (Ls) → Q6 (.exit 0) a w) → Rnd Try.prog c Q6 a w := by
    refine f139_l0.partial_correctness p1 _ ?_
    intro self ih9 x4 x5 rr h a w G  hle hE hH hx7
    refine rnd_step' hc ?_
    refine wp_seq_k (fun K hK10 => ?_)
    refine wp_seq_k (fun K hK11 => ?_)
    refine wp_region_from ?_
    refine segO 4 [] [(10, .kv .bool (decide (x5 < (p1.length : Int))))] (Os := []) trivial hE hH (by kernel_rfl) (fun a hE => ?_)
    refine wpFrom_end (by kernel_rfl) ?_
    refine Exit.then_normal (hK11 _ _ ?_)
    refine condE (b := decide (x5 < (p1.length : Int))) hE (by kernel_rfl) (fun hc => ?_) (fun hc => ?_)
    · replace h := ifT hc h
      refine wp_skip ?_
      refine Exit.then_normal (hK10 _ _ ?_)
      refine wp_seq_k (fun K hK12 => ?_)
      refine wp_block ?_
      refine wp_seq_k (fun K hK13 => ?_)
      refine wp_region_from ?_
      obtain ⟨q14, h⟩ := gd h
      refine segO 7 [] [(0, .kv (.int .u32) (IntKind.wrap .u32 ((BitVec.ofInt (IntKind.bits .u32) x4 ^^^ BitVec.ofInt (IntKind.bits .u32) (IntKind.wrap .u32 (btS p1 x5))).toNat)))] (Os := [_]) ⟨q14, trivial⟩ hE hH (by kernel_rfl) (fun a hE => ?_)
      refine wpFrom_end (by kernel_rfl) ?_
      refine Exit.then_normal (hK13 _ _ ?_)
      refine wp_seq_k (fun K hK15 => ?_)
      refine wp_region_from ?_
      refine segO 1 [] [(6, .kv .i 0)] (Os := []) trivial hE hH (by kernel_rfl) (fun a hE => ?_)
      refine wpFrom_end (by kernel_rfl) ?_
      refine Exit.then_normal (hK15 _ _ ?_)
      refine wp_block ?_
      obtain ⟨z26, hz26, h⟩ := bs h
      refine loop_intro (fun Q18 c hQ hc => ?_)
      have key : ∀ (x16 : Int) (x17 : Int) (rr : Int × Int), f139_l1  x16 x17 = some rr → ∀ (a : Act) (w : World) (G : Gh), G0.le G → EnvR G 26 a [(0, .kv (.int .u32) x16), (1, .kv .str p1), (4, .kv (.int .u32) 0), (5, .kv .i x5), (6, .kv .i x17)] → Holds w G (tabs σ) (Ls) → (∀ z27 : Int × Int, rr = z27 → ∀ (a : Act) (w : World) (G : Gh), G0.le G → EnvR G 26 a [(0, .kv (.int .u32) z27.1), (1, .kv .str p1), (4, .kv (.int .u32) 0), (5, .kv .i x5), (6, .kv .i z27.2)] → Holds w G (tabs σ) (Ls) → Q18 (.exit 2) a w) → Rnd Try.prog c Q18 a w := by
        refine f139_l1.partial_correctness  _ ?_
        intro self ih21 x16 x17 rr h a w G  hle hE hH hx19
        refine rnd_step' hc ?_
        refine wp_seq_k (fun K hK22 => ?_)
        refine wp_seq_k (fun K hK23 => ?_)
        refine wp_region_from ?_
        refine segO 2 [] [(20, .kv .bool (decide (x17 < 8)))] (Os := []) trivial hE hH (by kernel_rfl) (fun a hE => ?_)
        refine wpFrom_end (by kernel_rfl) ?_
        refine Exit.then_normal (hK23 _ _ ?_)
        refine condE (b := decide (x17 < 8)) hE (by kernel_rfl) (fun hc => ?_) (fun hc => ?_)
        · replace h := ifT hc h
          refine wp_skip ?_
          refine Exit.then_normal (hK22 _ _ ?_)
          refine wp_seq_k (fun K hK24 => ?_)
          refine wp_block ?_
          refine wp_region_from ?_
          refine segO 1 [] [(23, .kv (.int .u32) x16)] (Os := []) trivial hE hH (by kernel_rfl) (fun a hE => ?_)
          obtain ⟨r25, hr25, h⟩ := bs h
          refine stepCall (d := (some 24)) (f152_ok hr25) hE hH hN (by kernel_rfl) (by kernel_rfl) trivial (fun a w G hl1 hE hH => ?_)
          have hle := Gh.le_trans hle hl1
          refine segO 1 [] [(0, .kv (.int .u32) r25)] (Os := []) trivial hE hH (by kernel_rfl) (fun a hE => ?_)
          refine wpFrom_end (by kernel_rfl) ?_
          refine Exit.in_normal ?_
          refine Exit.then_normal (hK24 _ _ ?_)
          refine wp_region_from ?_
          refine segO 3 [] [(6, .kv .i (IntKind.wrap .i64 (x17 + 1)))] (Os := []) trivial hE hH (by kernel_rfl) (fun a hE => ?_)
          refine wpFrom_end (by kernel_rfl) ?_
          refine Exit.then_normal ?_
          exact ih21 _ _ _ h _ _ _  hle (hE.subC (by kernel_rfl)) hH hx19
        · replace h := ifF hc h
          refine wp_exit ?_
          refine Exit.then_exit ?_
          refine Exit.then_exit ?_
          cases h
          exact hx19 _ rfl _ _ _  hle (hE.subC (by kernel_rfl)) hH
      refine key _ _ _ hz26 _ _ _  hle (hE.subC (by kernel_rfl)) hH ?_
      · intro z27 hz a w G  hle hE hH
        subst hz
        rw [hQ]
        refine Exit.in_eq ?_
        refine Exit.in_normal ?_
        refine Exit.then_normal (hK12 _ _ ?_)
        refine wp_region_from ?_
        refine segO 3 [] [(5, .kv .i (IntKind.wrap .i64 (x5 + 1)))] (Os := []) trivial hE hH (by kernel_rfl) (fun a hE => ?_)
        refine wpFrom_end (by kernel_rfl) ?_
        refine Exit.then_normal ?_
        exact ih9 _ _ _ h _ _ _  hle (hE.subC (by kernel_rfl)) hH hx7
    · replace h := ifF hc h
      refine wp_exit ?_
      refine Exit.then_exit ?_
      refine Exit.then_exit ?_
      cases h
      exact hx7 _ rfl _ _ _  hle (hE.subC (by kernel_rfl)) hH
  refine key _ _ _ hz28 _ _ _  hle (hE.subC (by kernel_rfl)) hH ?_
  · intro z29 hz a w G  hle hE hH
    subst hz
    rw [hQ]
    refine Exit.in_eq ?_
    refine Exit.then_normal (hK2 _ _ ?_)
    refine wp_seq_k (fun K hK30 => ?_)
    refine wp_region_from ?_
    refine segO 2 [] [(4, .kv (.int .u32) z28.1)] (Os := []) trivial hE hH (by kernel_rfl) (fun a hE => ?_)
    refine wpFrom_end (by kernel_rfl) ?_
    refine Exit.then_normal (hK30 _ _ ?_)
    refine wp_ret ?_
    cases h
    exact ret1 rfl hE hle hH (by kernel_rfl)

def f112 (p0 : List UInt8) : Option Int :=
  f139 4294967295 p0 >>= fun r3 =>
  some (IntKind.wrap .u32 ((BitVec.ofInt (IntKind.bits .u32) r3 ^^^ BitVec.ofInt (IntKind.bits .u32) 4294967295).toNat))

theorem f112_ok {p0 : List UInt8} {σ : St} {p : Int} (h : f112 p0 = some p) : Spec Try.prog 112 [.kv .str p0] (tabs σ) (.kv (.int .u32) p) (tabs σ) := by
  refine Spec.intro Try.func112 (by kernel_rfl) rfl (by kernel_rfl) (fun a w G0 Ls hE hH hN => ?_)
  have hle : G0.le G0 := Gh.le_refl G0
  unfold f112 at h
  refine wp_seq_k (fun K hK1 => ?_)
  refine wp_region_from ?_
  refine segO 1 [] [(2, .kv (.int .u32) 0)] (Os := []) trivial hE hH (by kernel_rfl) (fun a hE => ?_)
  refine wpFrom_end (by kernel_rfl) ?_
  refine Exit.then_normal (hK1 _ _ ?_)
  refine wp_seq_k (fun K hK2 => ?_)
  refine wp_region_from ?_
  refine segO 1 [] [(3, .kv .str p0)] (Os := []) trivial hE hH (by kernel_rfl) (fun a hE => ?_)
  obtain ⟨r3, hr3, h⟩ := bs h
  refine stepCall (d := (some 4)) (f139_ok hr3) hE hH hN (by kernel_rfl) (by kernel_rfl) trivial (fun a w G hl1 hE hH => ?_)
  have hle := Gh.le_trans hle hl1
  refine segO 2 [] [(2, .kv (.int .u32) (IntKind.wrap .u32 ((BitVec.ofInt (IntKind.bits .u32) r3 ^^^ BitVec.ofInt (IntKind.bits .u32) 4294967295).toNat)))] (Os := []) trivial hE hH (by kernel_rfl) (fun a hE => ?_)
  refine wpFrom_end (by kernel_rfl) ?_
  refine Exit.then_normal (hK2 _ _ ?_)
  refine wp_ret ?_
  cases h
  exact ret1 rfl hE hle hH (by kernel_rfl)

def f92_l0  (l10 : List Int) (x11 : Int) (x12 : Int) : Option ((List Int) × Int × Int) :=
  if (decide (x12 < 4)) = true then
  if (l10.length + 1) * 1 ≤ 140737488355328 then
  f92_l0 (l10 ++ [IntKind.wrap .u8 (Int.tmod x11 256)]) (IntKind.wrap .u32 (Int.tdiv x11 256)) (IntKind.wrap .i64 (x12 + 1))
  else none
  else
  some ((l10, x11, x12))
  partial_fixpoint

def f92 (p0 : List UInt8) : Option (List UInt8) :=
  f112 p0 >>= fun r3 =>
  if p0.length ≤ 140737488355328 then
  f92_l0  (nums8 p0) r3 0 >>= fun z23 =>
  some (bytesS z23.1)
  else none

theorem f92_ok {p0 : List UInt8} {σ : St} {p : List UInt8} (h : f92 p0 = some p) : Spec Try.prog 92 [.kv .str p0] (tabs σ) (.kv .str p) (tabs σ) := by
  refine Spec.intro Try.func92 (by kernel_rfl) rfl (by kernel_rfl) (fun a w G0 Ls hE hH hN => ?_)
  have hle : G0.le G0 := Gh.le_refl G0
  unfold f92 at h
  refine wp_seq_k (fun K hK1 => ?_)
  refine wp_region_from ?_
  refine segO 1 [] [(2, .kv .str [])] (Os := []) trivial hE hH (by kernel_rfl) (fun a hE => ?_)
  refine wpFrom_end (by kernel_rfl) ?_
  refine Exit.then_normal (hK1 _ _ ?_)
  refine wp_seq_k (fun K hK2 => ?_)
  refine wp_region_from ?_
  refine segO 1 [] [(6, .kv .str p0)] (Os := []) trivial hE hH (by kernel_rfl) (fun a hE => ?_)
  obtain ⟨r3, hr3, h⟩ := bs h
  refine stepCall (d := (some 7)) (f112_ok hr3) hE hH hN (by kernel_rfl) (by kernel_rfl) trivial (fun a w G hl1 hE hH => ?_)
  have hle := Gh.le_trans hle hl1
  refine segO 1 [] [(3, .kv (.int .u32) r3)] (Os := []) trivial hE hH (by kernel_rfl) (fun a hE => ?_)
  refine wpFrom_end (by kernel_rfl) ?_
  refine Exit.then_normal (hK2 _ _ ?_)
  refine wp_seq_k (fun K hK4 => ?_)
  refine wp_region_from ?_
  refine segO 1 [] [(8, .kv .str p0)] (Os := []) trivial hE hH (by kernel_rfl) (fun a hE => ?_)
  obtain ⟨q5, h⟩ := gd h
  refine stepCnvS (e := 5) (y := p0) (d := (some 9)) hE hH (by kernel_rfl) (by kernel_rfl) q5 (fun v6 a w G hl2 hE hH => ?_)
  have hle := Gh.le_trans hle hl2
  refine segO 1 [] [(4, .val v6)] (Os := []) trivial hE hH (by kernel_rfl) (fun a hE => ?_)
  refine wpFrom_end (by kernel_rfl) ?_
  refine Exit.then_normal (hK4 _ _ ?_)
  refine wp_seq_k (fun K hK7 => ?_)
  refine wp_seq_k (fun K hK8 => ?_)
  refine wp_region_from ?_
  refine segO 1 [] [(5, .kv .i 0)] (Os := []) trivial hE hH (by kernel_rfl) (fun a hE => ?_)
  refine wpFrom_end (by kernel_rfl) ?_
  refine Exit.then_normal (hK8 _ _ ?_)
  refine wp_block ?_
  obtain ⟨z23, hz23, h⟩ := bs h
  refine loop_intro (fun Q13 c hQ hc => ?_)
  have key : ∀ (l10 : List Int) (x11 : Int) (x12 : Int) (rr : (List Int) × Int × Int), f92_l0  l10 x11 x12 = some rr → ∀ (a : Act) (w : World) (G : Gh) (v9 : Value), G0.le G → EnvR G 24 a [(2, .kv .str []), (3, .kv (.int .u32) x11), (4, .val v9), (5, .kv .i x12)] → Holds w G (tabs σ) (LS.sby v9 5 l10 :: Ls) → (∀ z24 : (List Int) × Int × Int, rr = z24 → ∀ (a : Act) (w : World) (G : Gh) (v9 : Value), G0.le G → EnvR G 24 a [(2, .kv .str []), (3, .kv (.int .u32) z24.2.1), (4, .val v9), (5, .kv .i z24.2.2)] → Holds w G (tabs σ) (LS.sby v9 5 z24.1 :: Ls) → Q13 (.exit 0) a w) → Rnd Try.prog c Q13 a w := by
    refine f92_l0.partial_correctness  _ ?_
    intro self ih16 l10 x11 x12 rr h a w G v9 hle hE hH hx14
    refine rnd_step' hc ?_
    refine wp_seq_k (fun K hK17 => ?_)
    refine wp_seq_k (fun K hK18 => ?_)
    refine wp_region_from ?_
    refine segO 2 [] [(11, .kv .bool (decide (x12 < 4)))] (Os := []) trivial hE hH (by kernel_rfl) (fun a hE => ?_)
    refine wpFrom_end (by kernel_rfl) ?_
    refine Exit.then_normal (hK18 _ _ ?_)
    refine condE (b := decide (x12 < 4)) hE (by kernel_rfl) (fun hc => ?_) (fun hc => ?_)
    · replace h := ifT hc h
      refine wp_skip ?_
      refine Exit.then_normal (hK17 _ _ ?_)
      refine wp_seq_k (fun K hK19 => ?_)
      refine wp_block ?_
      refine wp_seq_k (fun K hK20 => ?_)
      refine wp_region_from ?_
      refine segO 4 [] [(14, .val v9), (17, .kv (.int .u8) (IntKind.wrap .u8 (Int.tmod x11 256)))] (Os := [_]) ⟨(by decide : (256 : Int) ≠ 0), trivial⟩ hE hH (by kernel_rfl) (fun a hE => ?_)
      refine stepBuildS (d := (some 18)) (.int .u8) [IntKind.wrap .u8 (Int.tmod x11 256)] hE hH (by kernel_rfl) (by kernel_rfl) (fun a w G hl3 hE hH => ?_)
      have hle := Gh.le_trans hle hl3
      obtain ⟨q21, h⟩ := gd h
      refine stepAppS 0 (v := v9) (xs := l10) (ys := [IntKind.wrap .u8 (Int.tmod x11 256)]) (e' := 5) (d := (some 19)) hE hH (by kernel_rfl) rfl (by kernel_rfl) q21 (fun v22 a w G hl4 hE hH => ?_)
      have hle := Gh.le_trans hle hl4
      refine segO 1 [] [(4, .val v22)] (Os := []) trivial hE hH (by kernel_rfl) (fun a hE => ?_)
      refine wpFrom_end (by kernel_rfl) ?_
      refine Exit.then_normal (hK20 _ _ ?_)
      refine wp_region_from ?_
      refine segO 3 [] [(3, .kv (.int .u32) (IntKind.wrap .u32 (Int.tdiv x11 256)))] (Os := [_]) ⟨(by decide : (256 : Int) ≠ 0), trivial⟩ hE hH (by kernel_rfl) (fun a hE => ?_)
      refine wpFrom_end (by kernel_rfl) ?_
      refine Exit.in_normal ?_
      refine Exit.then_normal (hK19 _ _ ?_)
      refine wp_region_from ?_
      refine segO 3 [] [(5, .kv .i (IntKind.wrap .i64 (x12 + 1)))] (Os := []) trivial hE hH (by kernel_rfl) (fun a hE => ?_)
      refine wpFrom_end (by kernel_rfl) ?_
      refine Exit.then_normal ?_
      exact ih16 _ _ _ _ h _ _ _ v22 hle (hE.subC (by kernel_rfl)) hH hx14
    · replace h := ifF hc h
      refine wp_exit ?_
      refine Exit.then_exit ?_
      refine Exit.then_exit ?_
      cases h
      exact hx14 _ rfl _ _ _ v9 hle (hE.subC (by kernel_rfl)) hH
  refine key _ _ _ _ hz23 _ _ _ v6 hle (hE.subC (by kernel_rfl)) hH ?_
  · intro z24 hz a w G v9 hle hE hH
    subst hz
    rw [hQ]
    refine Exit.in_eq ?_
    refine Exit.then_normal (hK7 _ _ ?_)
    refine wp_seq_k (fun K hK25 => ?_)
    refine wp_region_from ?_
    refine segO 1 [] [(22, .val v9)] (Os := []) trivial hE hH (by kernel_rfl) (fun a hE => ?_)
    refine stepCnS 0 (v := v9) (e := 5) (xs := z23.1) (d := (some 23)) hE hH (by kernel_rfl) rfl (by kernel_rfl) (fun a hE => ?_)
    refine segO 1 [] [(2, .kv .str (bytesS z23.1))] (Os := []) trivial hE hH (by kernel_rfl) (fun a hE => ?_)
    refine wpFrom_end (by kernel_rfl) ?_
    refine Exit.then_normal (hK25 _ _ ?_)
    refine wp_ret ?_
    have hH := hH.drop (fun _ _ _ => rfl)
    cases h
    exact ret1 rfl hE hle hH (by kernel_rfl)

def f44 (p0 : List UInt8) : Option ((List UInt8) × Int) :=
  if (decide ((p0.length : Int) < 4)) = true then
  some ([], 5)
  else
  if (0 : Int) ≤ (IntKind.wrap .i64 ((p0.length : Int) - 4)) ∧ (IntKind.wrap .i64 ((p0.length : Int) - 4)) ≤ (p0.length : Int) then
  f92 (p0.take (Int.toNat (IntKind.wrap .i64 ((p0.length : Int) - 4)))) >>= fun r9 =>
  if (!(r9 == p0)) = true then
  some ([], 7)
  else
  some (p0.take (Int.toNat (IntKind.wrap .i64 ((p0.length : Int) - 4))), 0)
  else none

theorem f44_ok {p0 : List UInt8} {σ : St} {p : (List UInt8) × Int} (h : f44 p0 = some p) : Spec Try.prog 44 [.kv .str p0] (tabs σ) (.tup [⟨.str, p.1⟩, ⟨.i, p.2⟩]) (tabs σ) := by
  refine Spec.intro Try.func44 (by kernel_rfl) rfl (by kernel_rfl) (fun a w G0 Ls hE hH hN => ?_)
  have hle : G0.le G0 := Gh.le_refl G0
  unfold f44 at h
  refine wp_seq_k (fun K hK1 => ?_)
  refine wp_region_from ?_
  refine segO 2 [] [(2, .kv .str []), (3, .kv .i 0)] (Os := []) trivial hE hH (by kernel_rfl) (fun a hE => ?_)
  refine wpFrom_end (by kernel_rfl) ?_
  refine Exit.then_normal (hK1 _ _ ?_)
  refine wp_seq_k (fun K hK2 => ?_)
  refine wp_seq_k (fun K hK3 => ?_)
  refine wp_region_from ?_
  refine segO 3 [] [(7, .kv .bool (decide ((p0.length : Int) < 4)))] (Os := []) trivial hE hH (by kernel_rfl) (fun a hE => ?_)
  refine wpFrom_end (by kernel_rfl) ?_
  refine Exit.then_normal (hK3 _ _ ?_)
  refine condE (b := decide ((p0.length : Int) < 4)) hE (by kernel_rfl) (fun hc => ?_) (fun hc => ?_)
  · replace h := ifT hc h
    refine wp_seq_k (fun K hK4 => ?_)
    refine wp_region_from ?_
    refine segO 2 [] [(2, .kv .str []), (3, .kv .i 5)] (Os := []) trivial hE hH (by kernel_rfl) (fun a hE => ?_)
    refine wpFrom_end (by kernel_rfl) ?_
    refine Exit.then_normal (hK4 _ _ ?_)
    refine wp_ret ?_
    refine Exit.then_ret ?_
    cases h
    exact ret2 rfl hE hle hH (by kernel_rfl)
  · replace h := ifF hc h
    refine wp_skip ?_
    refine Exit.then_normal (hK2 _ _ ?_)
    refine wp_seq_k (fun K hK5 => ?_)
    refine wp_region_from ?_
    obtain ⟨q6, h⟩ := gd h
    refine segO 6 [] [(4, .kv .str (p0.take (Int.toNat (IntKind.wrap .i64 ((p0.length : Int) - 4)))))] (Os := [_]) ⟨q6, trivial⟩ hE hH (by kernel_rfl) (fun a hE => ?_)
    refine wpFrom_end (by kernel_rfl) ?_
    refine Exit.then_normal (hK5 _ _ ?_)
    refine wp_seq_k (fun K hK7 => ?_)
    refine wp_seq_k (fun K hK8 => ?_)
    refine wp_region_from ?_
    refine segO 1 [] [(13, .kv .str (p0.take (Int.toNat (IntKind.wrap .i64 ((p0.length : Int) - 4)))))] (Os := []) trivial hE hH (by kernel_rfl) (fun a hE => ?_)
    obtain ⟨r9, hr9, h⟩ := bs h
    refine stepCall (d := (some 14)) (f92_ok hr9) hE hH hN (by kernel_rfl) (by kernel_rfl) trivial (fun a w G hl1 hE hH => ?_)
    have hle := Gh.le_trans hle hl1
    refine segO 2 [] [(16, .kv .bool (!(r9 == p0)))] (Os := []) trivial hE hH (by kernel_rfl) (fun a hE => ?_)
    refine wpFrom_end (by kernel_rfl) ?_
    refine Exit.then_normal (hK8 _ _ ?_)
    refine condE (b := !(r9 == p0)) hE (by kernel_rfl) (fun hc => ?_) (fun hc => ?_)
    · replace h := ifT hc h
      refine wp_seq_k (fun K hK10 => ?_)
      refine wp_region_from ?_
      refine segO 2 [] [(2, .kv .str []), (3, .kv .i 7)] (Os := []) trivial hE hH (by kernel_rfl) (fun a hE => ?_)
      refine wpFrom_end (by kernel_rfl) ?_
      refine Exit.then_normal (hK10 _ _ ?_)
      refine wp_ret ?_
      refine Exit.then_ret ?_
      cases h
      exact ret2 rfl hE hle hH (by kernel_rfl)
    · replace h := ifF hc h
      refine wp_skip ?_
      refine Exit.then_normal (hK7 _ _ ?_)
      refine wp_seq_k (fun K hK11 => ?_)
      refine wp_region_from ?_
      refine segO 3 [] [(2, .kv .str (p0.take (Int.toNat (IntKind.wrap .i64 ((p0.length : Int) - 4))))), (3, .kv .i 0)] (Os := []) trivial hE hH (by kernel_rfl) (fun a hE => ?_)
      refine wpFrom_end (by kernel_rfl) ?_
      refine Exit.then_normal (hK11 _ _ ?_)
      refine wp_ret ?_
      cases h
      exact ret2 rfl hE hle hH (by kernel_rfl)
end Go.Proofs.Ytlfemhkabjafeaa.M

/- Plain law: the reference's sums. -/
set_option linter.unusedVariables false
set_option linter.unusedSimpArgs false
namespace Go.Proofs.Ytlfemhkabjafeaa.M

theorem w32 (x : Int) : IntKind.wrap .u32 x = x % 4294967296 := by simp [IntKind.wrap, IntKind.bits, IntKind.signed]

/-- A register's range. -/
abbrev Rg (x : Int) : Prop := 0 ≤ x ∧ x < 4294967296

theorem rg_wrap (x : Int) : Rg (IntKind.wrap .u32 x) := by rw [w32]; omega

theorem and1 (n : Nat) (h : n < 4294967296) : (BitVec.ofInt (IntKind.bits .u32) (n : Int) &&& BitVec.ofInt (IntKind.bits .u32) 1).toNat = n % 2 := by
  have e1 : BitVec.ofInt (IntKind.bits .u32) (n : Int) = BitVec.ofNat 32 n := ofInt_nat 32 n
  have e2 : BitVec.ofInt (IntKind.bits .u32) 1 = BitVec.ofNat 32 1 := rfl
  rw [e1, e2]
  show (BitVec.ofNat 32 n &&& BitVec.ofNat 32 1).toNat = _
  rw [BitVec.toNat_and, BitVec.toNat_ofNat, BitVec.toNat_ofNat, Nat.mod_eq_of_lt (by omega), Nat.mod_eq_of_lt (by decide), Nat.and_one_is_mod]

/-- A bit shifted out. -/
def stR (x : Int) : Int := if x % 2 = 1 then IntKind.wrap .u32 ((BitVec.ofInt (IntKind.bits .u32) (x / 2) ^^^ BitVec.ofInt (IntKind.bits .u32) 2197175160).toNat) else x / 2

theorem stR_rg {x : Int} (h : Rg x) : Rg (stR x) := by
  unfold stR
  split
  · exact rg_wrap _
  · omega

theorem f152_eq {x : Int} (h : Rg x) : f152 x = some (stR x) := by
  unfold f152 stR
  have e1 : Int.tdiv x 2 = x / 2 := Int.tdiv_eq_ediv_of_nonneg h.1
  have e2 : Int.tmod x 2 = x % 2 := Int.tmod_eq_emod_of_nonneg h.1
  have e3 : IntKind.wrap .u32 (x / 2) = x / 2 := by rw [w32]; omega
  rw [e1, e2, e3]
  by_cases c : x % 2 = 1
  · rw [if_pos (by simpa using c), if_pos c]
  · rw [if_neg (by simpa using c), if_neg c]

theorem loops_eq : ∀ (k n : Nat) (x : Int), n + k = 8 → Rg x → ∃ y, Rg y ∧ f151_l0 x (n : Int) = some (y, 8) ∧ f139_l1 x (n : Int) = some (y, 8)
  | 0, n, x, h, hx => by
    rw [f151_l0, f139_l1]
    have : n = 8 := by omega
    subst this
    exact ⟨x, hx, by simp, by simp⟩
  | k + 1, n, x, h, hx => by
    rw [f151_l0, f139_l1]
    have hw : IntKind.wrap .i64 ((n : Int) + 1) = ((n + 1 : Nat) : Int) := by rw [wrap_id (by omega) (by omega)]; omega
    have h1 : ((n : Int) < 8) := by omega
    obtain ⟨m, rfl⟩ : ∃ m : Nat, x = (m : Int) := ⟨x.toNat, by omega⟩
    have e1 : IntKind.wrap .u32 (((BitVec.ofInt (IntKind.bits .u32) (m : Int) &&& BitVec.ofInt (IntKind.bits .u32) 1).toNat : Nat) : Int) = ((m % 2 : Nat) : Int) := by
      rw [and1 m (by omega), w32]; omega
    have e2 : Int.fdiv (m : Int) (2 ^ 1) = (m : Int) / 2 := by rw [Int.fdiv_eq_ediv_of_nonneg _ (by decide)]; rfl
    obtain ⟨y, h2, h3, h4⟩ := loops_eq k (n + 1) (stR (m : Int)) (by omega) (stR_rg hx)
    refine ⟨y, h2, ?_, ?_⟩
    · rw [e1, e2, hw]
      simp only [h1, decide_true, if_true]
      unfold stR at h3
      by_cases c : (m : Int) % 2 = 1
      · rw [if_pos c] at h3
        rw [if_pos (by simp; omega)]; exact h3
      · rw [if_neg c] at h3
        rw [if_neg (by simp; omega)]; exact h3
    · rw [hw]
      simp only [h1, decide_true, if_true, f152_eq hx, Option.bind_eq_bind, Option.bind_some]
      exact h4

theorem walk_eq (s : List UInt8) (hs : s.length < 9223372036854775808) : ∀ (k n : Nat) (x : Int), n + k = s.length → Rg x → ∃ y, Rg y.1 ∧ f138_l0 s x (n : Int) = some y ∧ f139_l0 s x (n : Int) = some y
  | 0, n, x, h, hx => by
    rw [f138_l0, f139_l0]
    have : n = s.length := by omega
    subst this
    exact ⟨(x, (s.length : Int)), hx, by simp, by simp⟩
  | k + 1, n, x, h, hx => by
    rw [f138_l0, f139_l0]
    have hn : n < s.length := by omega
    have hw : IntKind.wrap .i64 ((n : Int) + 1) = ((n + 1 : Nat) : Int) := by rw [wrap_id (by omega) (by omega)]; omega
    have h1 : ((n : Int) < (s.length : Int)) := by omega
    have h0 : (0 : Int) ≤ (n : Int) := by omega
    obtain ⟨z, hz, h3, h4⟩ := loops_eq 8 0 (IntKind.wrap .u32 ((BitVec.ofInt (IntKind.bits .u32) x ^^^ BitVec.ofInt (IntKind.bits .u32) (IntKind.wrap .u32 (btS s (n : Int)))).toNat)) (by omega) (rg_wrap _)
    rw [show (((0 : Nat) : Int)) = (0 : Int) from rfl] at h3 h4
    obtain ⟨y, h5, h6, h7⟩ := walk_eq s hs k (n + 1) z (by omega) hz
    have e1 : f151 x (btS s (n : Int)) = some z := by unfold f151; rw [h3]; rfl
    refine ⟨y, h5, ?_, ?_⟩
    · simp only [h1, h0, decide_true, if_true, and_self, e1, Option.bind_eq_bind, Option.bind_some, hw, h6]
    · simp only [h1, h0, decide_true, if_true, and_self, h4, Option.bind_eq_bind, Option.bind_some, hw, h7]

theorem rg_crc {s : List UInt8} (hs : s.length < 9223372036854775808) : f112 s = some (crc s) ∧ Rg (crc s) := by
  have e0 : IntKind.wrap .u32 ((BitVec.ofInt (IntKind.bits .u32) (if IntKind.signed .u32 = true then -1 else IntKind.max .u32) ^^^ BitVec.ofInt (IntKind.bits .u32) 0).toNat) = 4294967295 := by decide
  have e1 : (if IntKind.signed .u32 = true then (-1 : Int) else IntKind.max .u32) = 4294967295 := by decide
  obtain ⟨y, h1, h2, h3⟩ := walk_eq s hs s.length 0 4294967295 (by omega) (by omega)
  rw [show (((0 : Nat) : Int)) = (0 : Int) from rfl] at h2 h3
  have h4 : f111 s = some (IntKind.wrap .u32 ((BitVec.ofInt (IntKind.bits .u32) 4294967295 ^^^ BitVec.ofInt (IntKind.bits .u32) y.1).toNat)) := by
    unfold f111 f138
    rw [e0, h2, e1]; rfl
  have h5 : crc s = IntKind.wrap .u32 ((BitVec.ofInt (IntKind.bits .u32) 4294967295 ^^^ BitVec.ofInt (IntKind.bits .u32) y.1).toNat) := by
    unfold crc; rw [h4]; rfl
  refine ⟨?_, by rw [h5]; exact rg_wrap _⟩
  unfold f112 f139
  rw [h3, h5, BitVec.xor_comm]
  rfl

/-! ### Sealed -/
theorem bytesS_nums8 (s : List UInt8) : bytesS (nums8 s) = s := by
  unfold bytesS nums8
  rw [List.map_map]
  conv => rhs; rw [← List.map_id s]
  apply List.map_congr_left
  intro c _
  simp

theorem bytesS_app (a b : List Int) : bytesS (a ++ b) = bytesS a ++ bytesS b := by unfold bytesS; rw [List.map_append]

theorem f92_eq {s : List UInt8} (hs : s.length + 4 < 100000000) : f92 s = some (sealS s) := by
  obtain ⟨h1, h2, h3⟩ := rg_crc (s := s) (by omega)
  have hn : (nums8 s).length = s.length := by unfold nums8; simp
  have st : ∀ (l : List Int) (x : Int) (n : Nat), n < 4 → l.length ≤ 100000000 → Rg x → f92_l0 l x (n : Int) = f92_l0 (l ++ [IntKind.wrap .u8 x]) (x / 256) ((n + 1 : Nat) : Int) := by
    intro l x n hn hl hx
    rw [f92_l0]
    have hw : IntKind.wrap .i64 ((n : Int) + 1) = ((n + 1 : Nat) : Int) := by rw [wrap_id (by omega) (by omega)]; omega
    have c : ((n : Int) < 4) := by omega
    have e1 : Int.tdiv x 256 = x / 256 := Int.tdiv_eq_ediv_of_nonneg hx.1
    have e2 : Int.tmod x 256 = x % 256 := Int.tmod_eq_emod_of_nonneg hx.1
    have e3 : IntKind.wrap .u32 (x / 256) = x / 256 := by rw [w32]; omega
    have e4 : IntKind.wrap .u8 (x % 256) = IntKind.wrap .u8 x := by rw [w8, w8]; omega
    simp only [c, decide_true, if_true]
    rw [if_pos (by omega), e1, e2, e3, e4, hw]
  have g : ∀ (y : Int) (k : Nat), 0 ≤ y → Int.fdiv y (2 ^ k) = y / (2 ^ k) := fun y k hy => Int.fdiv_eq_ediv_of_nonneg _ (by have : (0 : Int) < 2 ^ k := Int.pow_pos (by decide); omega)
  unfold f92
  rw [h1]
  simp only [Option.bind_eq_bind, Option.bind_some]
  rw [if_pos (by omega)]
  have hl : ∀ (l : List Int) (n : Nat), l.length = s.length + n → n ≤ 4 → l.length ≤ 100000000 := fun l n h1 h2 => by omega
  rw [show (0 : Int) = ((0 : Nat) : Int) from rfl, st _ _ 0 (by omega) (hl _ 0 (by omega) (by omega)) ⟨h2, h3⟩,
    st _ _ 1 (by omega) (hl _ 1 (by simp [hn]) (by omega)) (by omega), st _ _ 2 (by omega) (hl _ 2 (by simp [hn]) (by omega)) (by omega), st _ _ 3 (by omega) (hl _ 3 (by simp [hn]) (by omega)) (by omega), f92_l0]
  rw [if_neg (by decide)]
  simp only [Option.bind_some]
  unfold sealS sum4
  rw [g _ 8 h2, g _ 16 h2, g _ 24 h2]
  have a1 : crc s / 256 / 256 = crc s / 2 ^ 16 := by omega
  have a2 : crc s / 256 / 256 / 256 = crc s / 2 ^ 24 := by omega
  have a0 : crc s / 256 = crc s / 2 ^ 8 := rfl
  rw [a2, a1, a0]
  rw [bytesS_app, bytesS_app, bytesS_app, bytesS_app, bytesS_nums8]
  simp only [bytesS, List.map_cons, List.map_nil, List.append_assoc, List.singleton_append, List.cons_append, List.nil_append]

/-- What the reference opens. -/
theorem f44_eq {s : List UInt8} (hs : s.length < 100000000) : (∃ t, openS s = some t ∧ f44 s = some (t, 0)) ∨ (openS s = none ∧ ∃ e : Int, e ≠ 0 ∧ f44 s = some ([], e)) := by
  unfold f44
  have hw : IntKind.wrap .i64 ((s.length : Int) - 4) = (s.length : Int) - 4 := wrap_id (by omega) (by omega)
  rw [hw]
  by_cases c : s.length < 4
  · refine .inr ⟨?_, 5, by decide, by rw [if_pos (by simp; omega)]⟩
    unfold openS
    rw [if_neg (by omega)]
  have e1 : Int.toNat ((s.length : Int) - 4) = s.length - 4 := by omega
  have hg : (0 : Int) ≤ (s.length : Int) - 4 ∧ (s.length : Int) - 4 ≤ (s.length : Int) := by omega
  have hl : (s.take (s.length - 4)).length + 4 < 100000000 := by rw [List.length_take]; omega
  rw [if_neg (by simp; omega), if_pos hg, e1, f92_eq hl]
  simp only [Option.bind_eq_bind, Option.bind_some]
  unfold openS sealS
  by_cases c2 : sum4 (s.take (s.length - 4)) = s.drop (s.length - 4)
  · refine .inl ⟨s.take (s.length - 4), ?_, ?_⟩
    · rw [if_pos ⟨by omega, c2⟩]
    · rw [c2, List.take_append_drop, if_neg (by simp)]
  · refine .inr ⟨?_, 7, by decide, ?_⟩
    · rw [if_neg (fun h => c2 h.2)]
    · rw [if_pos]
      simp only [Bool.not_eq_true', beq_eq_false_iff_ne, ne_eq]
      intro h
      apply c2
      have h' : s.take (s.length - 4) ++ sum4 (s.take (s.length - 4)) = s.take (s.length - 4) ++ s.drop (s.length - 4) := by rw [List.take_append_drop]; exact h
      exact List.append_cancel_left h'
end Go.Proofs.Ytlfemhkabjafeaa.M

/- Printed by own program: twins and walks. -/
set_option linter.unusedVariables false
set_option maxRecDepth 100000
namespace Go.Proofs.Ytlfemhkabjafeaa.M
open Go.Proofs (Try.prog Try.func45 Try.f45)

def f45_l0 (p0 : List UInt8) (p1 : Int) (x7 : Int) : Option Int :=
  if ((decide ((IntKind.wrap .i64 (p1 + x7)) < (p0.length : Int))) && (decide (x7 < 10))) = true then
  if (0 : Int) ≤ (IntKind.wrap .i64 (p1 + x7)) ∧ (IntKind.wrap .i64 (p1 + x7)) < (p0.length : Int) then
  if (decide ((btS p0 (IntKind.wrap .i64 (p1 + x7))) ≥ 128)) = true then
  f45_l0 p0 p1 (IntKind.wrap .i64 (x7 + 1))
  else
  some (x7)
  else none
  else
  some (x7)
  partial_fixpoint

def f45_l1 (p0 : List UInt8) (p1 : Int) (x32 : Int) (x33 : Int) : Option (Int × Int) :=
  if (decide (x33 ≥ 0)) = true then
  if (0 : Int) ≤ (IntKind.wrap .i64 (p1 + x33)) ∧ (IntKind.wrap .i64 (p1 + x33)) < (p0.length : Int) then
  f45_l1 p0 p1 (IntKind.wrap .u64 ((IntKind.wrap .u64 (x32 * 128)) + (IntKind.wrap .u64 (Int.tmod (btS p0 (IntKind.wrap .i64 (p1 + x33))) 128)))) (IntKind.wrap .i64 (x33 - 1))
  else none
  else
  some ((x32, x33))
  partial_fixpoint

def f45_l2 (p0 : List UInt8) (p1 : Int) (x58 : Int) (x59 : Int) : Option (Int × Int) :=
  if (decide (x59 ≥ 0)) = true then
  if (0 : Int) ≤ (IntKind.wrap .i64 (p1 + x59)) ∧ (IntKind.wrap .i64 (p1 + x59)) < (p0.length : Int) then
  f45_l2 p0 p1 (IntKind.wrap .u64 ((IntKind.wrap .u64 (x58 * 128)) + (IntKind.wrap .u64 (Int.tmod (btS p0 (IntKind.wrap .i64 (p1 + x59))) 128)))) (IntKind.wrap .i64 (x59 - 1))
  else none
  else
  some ((x58, x59))
  partial_fixpoint

def f45 (p0 : List UInt8) (p1 : Int) : Option (Int × Int × Int) :=
  if ((decide (p1 < 0)) || (decide (p1 > (p0.length : Int)))) = true then
  some (0, 0, 3)
  else
  f45_l0 p0 p1 0 >>= fun z15 =>
  if (decide (z15 ≥ 10)) = true then
  some (0, 0, 6)
  else
  if ((z15 == 9) && (decide ((IntKind.wrap .i64 (p1 + 9)) < (p0.length : Int)))) = true then
  if (0 : Int) ≤ (IntKind.wrap .i64 (p1 + 9)) ∧ (IntKind.wrap .i64 (p1 + 9)) < (p0.length : Int) then
  if (decide ((btS p0 (IntKind.wrap .i64 (p1 + 9))) > 1)) = true then
  some (0, 0, 6)
  else
  if (decide ((IntKind.wrap .i64 (p1 + z15)) ≥ (p0.length : Int))) = true then
  some (0, 0, 5)
  else
  if (0 : Int) ≤ (IntKind.wrap .i64 (p1 + z15)) ∧ (IntKind.wrap .i64 (p1 + z15)) < (p0.length : Int) then
  if (((btS p0 (IntKind.wrap .i64 (p1 + z15))) == 0) && (decide (z15 > 0))) = true then
  some (0, 0, 6)
  else
  f45_l1 p0 p1 0 z15 >>= fun z42 =>
  if ((Int.tmod z42.1 2) == 0) = true then
  some (IntKind.wrap .i64 (IntKind.wrap .u64 (Int.tdiv z42.1 2)), IntKind.wrap .i64 ((IntKind.wrap .i64 (p1 + z15)) + 1), 0)
  else
  some (IntKind.wrap .i64 ((IntKind.wrap .i64 (0 - (IntKind.wrap .i64 (IntKind.wrap .u64 (Int.tdiv z42.1 2))))) - 1), IntKind.wrap .i64 ((IntKind.wrap .i64 (p1 + z15)) + 1), 0)
  else none
  else none
  else
  if (decide ((IntKind.wrap .i64 (p1 + z15)) ≥ (p0.length : Int))) = true then
  some (0, 0, 5)
  else
  if (0 : Int) ≤ (IntKind.wrap .i64 (p1 + z15)) ∧ (IntKind.wrap .i64 (p1 + z15)) < (p0.length : Int) then
  if (((btS p0 (IntKind.wrap .i64 (p1 + z15))) == 0) && (decide (z15 > 0))) = true then
  some (0, 0, 6)
  else
  f45_l2 p0 p1 0 z15 >>= fun z68 =>
  if ((Int.tmod z68.1 2) == 0) = true then
  some (IntKind.wrap .i64 (IntKind.wrap .u64 (Int.tdiv z68.1 2)), IntKind.wrap .i64 ((IntKind.wrap .i64 (p1 + z15)) + 1), 0)
  else
  some (IntKind.wrap .i64 ((IntKind.wrap .i64 (0 - (IntKind.wrap .i64 (IntKind.wrap .u64 (Int.tdiv z68.1 2))))) - 1), IntKind.wrap .i64 ((IntKind.wrap .i64 (p1 + z15)) + 1), 0)
  else none

theorem f45_ok {p0 : List UInt8} {p1 : Int} {σ : St} {p : Int × Int × Int} (h : f45 p0 p1 = some p) : Spec Try.prog 45 [.kv .str p0, .kv .i p1] (tabs σ) (.tup [⟨.i, p.1⟩, ⟨.i, p.2.1⟩, ⟨.i, p.2.2⟩]) (tabs σ) := by
  refine Spec.intro Try.func45 (by kernel_rfl) rfl (by kernel_rfl) (fun a w G0 Ls hE hH hN => ?_)
  have hle : G0.le G0 := Gh.le_refl G0
  unfold f45 at h
  refine wp_seq_k (fun K hK1 => ?_)
  refine wp_region_from ?_
  refine segO 3 [] [(4, .kv .i 0), (5, .kv .i 0), (6, .kv .i 0)] (Os := []) trivial hE hH (by kernel_rfl) (fun a hE => ?_)
  refine wpFrom_end (by kernel_rfl) ?_
  refine Exit.then_normal (hK1 _ _ ?_)
  refine wp_seq_k (fun K hK2 => ?_)
  refine wp_seq_k (fun K hK3 => ?_)
  refine wp_region_from ?_
  refine segO 8 [] [(17, .kv .bool ((decide (p1 < 0)) || (decide (p1 > (p0.length : Int)))))] (Os := []) trivial hE hH (by kernel_rfl) (fun a hE => ?_)
  refine wpFrom_end (by kernel_rfl) ?_
  refine Exit.then_normal (hK3 _ _ ?_)
  refine condE (b := (decide (p1 < 0)) || (decide (p1 > (p0.length : Int)))) hE (by kernel_rfl) (fun hc => ?_) (fun hc => ?_)
  · replace h := ifT hc h
    refine wp_seq_k (fun K hK4 => ?_)
    refine wp_region_from ?_
    refine segO 3 [] [(4, .kv .i 0), (5, .kv .i 0), (6, .kv .i 3)] (Os := []) trivial hE hH (by kernel_rfl) (fun a hE => ?_)
    refine wpFrom_end (by kernel_rfl) ?_
    refine Exit.then_normal (hK4 _ _ ?_)
    refine wp_ret ?_
    refine Exit.then_ret ?_
    cases h
    exact ret3 rfl hE hle hH (by kernel_rfl)
  · replace h := ifF hc h
    refine wp_skip ?_
    refine Exit.then_normal (hK2 _ _ ?_)
    refine wp_seq_k (fun K hK5 => ?_)
    refine wp_region_from ?_
    refine segO 1 [] [(7, .kv .i 0)] (Os := []) trivial hE hH (by kernel_rfl) (fun a hE => ?_)
    refine wpFrom_end (by kernel_rfl) ?_
    refine Exit.then_normal (hK5 _ _ ?_)
    refine wp_seq_k (fun K hK6 => ?_)
    refine wp_block ?_
    obtain ⟨z15, hz15, h⟩ := bs h
    refine loop_intro (fun Q8 c hQ hc => ?_)
    have key : ∀ (x7 : Int) (rr : Int), f45_l0 p0 p1 x7 = some rr → ∀ (a : Act) (w : World) (G : Gh), G0.le G → EnvR G 108 a [(0, .kv .str p0), (1, .kv .i p1), (4, .kv .i 0), (5, .kv .i 0), (6, .kv .i 0), (7, .kv .i x7)] → Holds w G (tabs σ) (Ls) → (∀ z16 : Int, rr = z16 → ∀ (a : Act) (w : World) (G : Gh), G0.le G → EnvR G 108 a [(0, .kv .str p0), (1, .kv .i p1), (4, .kv .i 0), (5, .kv .i 0), (6, .kv .i 0), (7, .kv .i z16)] → Holds w G (tabs σ) (Ls) → Q8 (.exit 0) a w) → Rnd Try.prog c Q8 a w := by
      refine f45_l0.partial_correctness p0 p1 _ ?_
      intro self ih11 x7 rr h a w G  hle hE hH hx9
      refine rnd_step' hc ?_
      refine wp_seq_k (fun K hK12 => ?_)
      refine wp_seq_k (fun K hK13 => ?_)
      refine wp_region_from ?_
      refine segO 11 [] [(28, .kv .bool ((decide ((IntKind.wrap .i64 (p1 + x7)) < (p0.length : Int))) && (decide (x7 < 10))))] (Os := []) trivial hE hH (by kernel_rfl) (fun a hE => ?_)
      by_cases hc : ((decide ((IntKind.wrap .i64 (p1 + x7)) < (p0.length : Int))) && (decide (x7 < 10))) = true
      · replace h := ifT hc h
        have hE := hE.setB 28 (by kernel_rfl) hc
        obtain ⟨q14, h⟩ := gd h
        refine segO 7 [] [(35, .kv .bool (decide ((btS p0 (IntKind.wrap .i64 (p1 + x7))) ≥ 128)))] (Os := [_]) ⟨q14, trivial⟩ hE hH (by kernel_rfl) (fun a hE => ?_)
        refine wpFrom_end (by kernel_rfl) ?_
        refine Exit.then_normal (hK13 _ _ ?_)
        refine condE (b := decide ((btS p0 (IntKind.wrap .i64 (p1 + x7))) ≥ 128)) hE (by kernel_rfl) (fun hc => ?_) (fun hc => ?_)
        · replace h := ifT hc h
          refine wp_skip ?_
          refine Exit.then_normal (hK12 _ _ ?_)
          refine wp_block ?_
          refine wp_region_from ?_
          refine segO 3 [] [(7, .kv .i (IntKind.wrap .i64 (x7 + 1)))] (Os := []) trivial hE hH (by kernel_rfl) (fun a hE => ?_)
          refine wpFrom_end (by kernel_rfl) ?_
          refine Exit.in_normal ?_
          refine Exit.then_normal ?_
          exact ih11 _ _ h _ _ _  hle (hE.subC (by kernel_rfl)) hH hx9
        · replace h := ifF hc h
          refine wp_exit ?_
          refine Exit.then_exit ?_
          refine Exit.then_exit ?_
          cases h
          exact hx9 _ rfl _ _ _  hle (hE.subC (by kernel_rfl)) hH
      · replace h := ifN hc h
        have hE := hE.setB 28 (by kernel_rfl) (bf hc)
        refine segO 7 [] [(35, .kv .bool false)] (Os := []) trivial hE hH (by kernel_rfl) (fun a hE => ?_)
        refine wpFrom_end (by kernel_rfl) ?_
        refine Exit.then_normal (hK13 _ _ ?_)
        refine condF hE (by kernel_rfl) rfl ?_
        refine wp_exit ?_
        refine Exit.then_exit ?_
        refine Exit.then_exit ?_
        cases h
        exact hx9 _ rfl _ _ _  hle (hE.subC (by kernel_rfl)) hH
    refine key _ _ hz15 _ _ _  hle (hE.subC (by kernel_rfl)) hH ?_
    · intro z16 hz a w G  hle hE hH
      subst hz
      rw [hQ]
      refine Exit.in_eq ?_
      refine Exit.then_normal (hK6 _ _ ?_)
      refine wp_seq_k (fun K hK17 => ?_)
      refine wp_seq_k (fun K hK18 => ?_)
      refine wp_region_from ?_
      refine segO 3 [] [(40, .kv .bool (decide (z15 ≥ 10)))] (Os := []) trivial hE hH (by kernel_rfl) (fun a hE => ?_)
      by_cases hc : (decide (z15 ≥ 10)) = true
      · replace h := ifT hc h
        have hE := hE.setB 40 (by kernel_rfl) hc
        refine segO 8 [] [(43, .undef)] (Os := []) trivial hE hH (by kernel_rfl) (fun a hE => ?_)
        refine stepSkip (d := (some 49)) hE (by kernel_rfl) (by kernel_rfl) (fun a hE => ?_)
        refine segO 6 [] [(50, .undef)] (Os := []) trivial hE hH (by kernel_rfl) (fun a hE => ?_)
        refine stepSkip (d := (some 56)) hE (by kernel_rfl) (by kernel_rfl) (fun a hE => ?_)
        refine segO 1 [] [(57, .kv .bool true)] (Os := []) trivial hE hH (by kernel_rfl) (fun a hE => ?_)
        refine wpFrom_end (by kernel_rfl) ?_
        refine Exit.then_normal (hK18 _ _ ?_)
        refine condT hE (by kernel_rfl) rfl ?_
        refine wp_seq_k (fun K hK19 => ?_)
        refine wp_region_from ?_
        refine segO 3 [] [(4, .kv .i 0), (5, .kv .i 0), (6, .kv .i 6)] (Os := []) trivial hE hH (by kernel_rfl) (fun a hE => ?_)
        refine wpFrom_end (by kernel_rfl) ?_
        refine Exit.then_normal (hK19 _ _ ?_)
        refine wp_ret ?_
        refine Exit.then_ret ?_
        cases h
        exact ret3 rfl hE hle hH (by kernel_rfl)
      · replace h := ifN hc h
        have hE := hE.setB 40 (by kernel_rfl) (bf hc)
        refine segO 10 [] [(50, .kv .bool ((z15 == 9) && (decide ((IntKind.wrap .i64 (p1 + 9)) < (p0.length : Int)))))] (Os := []) trivial hE hH (by kernel_rfl) (fun a hE => ?_)
        by_cases hc : ((z15 == 9) && (decide ((IntKind.wrap .i64 (p1 + 9)) < (p0.length : Int)))) = true
        · replace h := ifT hc h
          have hE := hE.setB 50 (by kernel_rfl) hc
          obtain ⟨q20, h⟩ := gd h
          refine segO 7 [] [(57, .kv .bool (decide ((btS p0 (IntKind.wrap .i64 (p1 + 9))) > 1)))] (Os := [_]) ⟨q20, trivial⟩ hE hH (by kernel_rfl) (fun a hE => ?_)
          refine wpFrom_end (by kernel_rfl) ?_
          refine Exit.then_normal (hK18 _ _ ?_)
          refine condE (b := decide ((btS p0 (IntKind.wrap .i64 (p1 + 9))) > 1)) hE (by kernel_rfl) (fun hc => ?_) (fun hc => ?_)
          · replace h := ifT hc h
            refine wp_seq_k (fun K hK21 => ?_)
            refine wp_region_from ?_
            refine segO 3 [] [(4, .kv .i 0), (5, .kv .i 0), (6, .kv .i 6)] (Os := []) trivial hE hH (by kernel_rfl) (fun a hE => ?_)
            refine wpFrom_end (by kernel_rfl) ?_
            refine Exit.then_normal (hK21 _ _ ?_)
            refine wp_ret ?_
            refine Exit.then_ret ?_
            cases h
            exact ret3 rfl hE hle hH (by kernel_rfl)
          · replace h := ifF hc h
            refine wp_skip ?_
            refine Exit.then_normal (hK17 _ _ ?_)
            refine wp_seq_k (fun K hK22 => ?_)
            refine wp_seq_k (fun K hK23 => ?_)
            refine wp_region_from ?_
            refine segO 6 [] [(63, .kv .bool (decide ((IntKind.wrap .i64 (p1 + z15)) ≥ (p0.length : Int))))] (Os := []) trivial hE hH (by kernel_rfl) (fun a hE => ?_)
            refine wpFrom_end (by kernel_rfl) ?_
            refine Exit.then_normal (hK23 _ _ ?_)
            refine condE (b := decide ((IntKind.wrap .i64 (p1 + z15)) ≥ (p0.length : Int))) hE (by kernel_rfl) (fun hc => ?_) (fun hc => ?_)
            · replace h := ifT hc h
              refine wp_seq_k (fun K hK24 => ?_)
              refine wp_region_from ?_
              refine segO 3 [] [(4, .kv .i 0), (5, .kv .i 0), (6, .kv .i 5)] (Os := []) trivial hE hH (by kernel_rfl) (fun a hE => ?_)
              refine wpFrom_end (by kernel_rfl) ?_
              refine Exit.then_normal (hK24 _ _ ?_)
              refine wp_ret ?_
              refine Exit.then_ret ?_
              cases h
              exact ret3 rfl hE hle hH (by kernel_rfl)
            · replace h := ifF hc h
              refine wp_skip ?_
              refine Exit.then_normal (hK22 _ _ ?_)
              refine wp_seq_k (fun K hK25 => ?_)
              refine wp_seq_k (fun K hK26 => ?_)
              refine wp_region_from ?_
              obtain ⟨q27, h⟩ := gd h
              refine segO 10 [] [(73, .kv .bool (((btS p0 (IntKind.wrap .i64 (p1 + z15))) == 0) && (decide (z15 > 0))))] (Os := [_]) ⟨q27, trivial⟩ hE hH (by kernel_rfl) (fun a hE => ?_)
              refine wpFrom_end (by kernel_rfl) ?_
              refine Exit.then_normal (hK26 _ _ ?_)
              refine condE (b := ((btS p0 (IntKind.wrap .i64 (p1 + z15))) == 0) && (decide (z15 > 0))) hE (by kernel_rfl) (fun hc => ?_) (fun hc => ?_)
              · replace h := ifT hc h
                refine wp_seq_k (fun K hK28 => ?_)
                refine wp_region_from ?_
                refine segO 3 [] [(4, .kv .i 0), (5, .kv .i 0), (6, .kv .i 6)] (Os := []) trivial hE hH (by kernel_rfl) (fun a hE => ?_)
                refine wpFrom_end (by kernel_rfl) ?_
                refine Exit.then_normal (hK28 _ _ ?_)
                refine wp_ret ?_
                refine Exit.then_ret ?_
                cases h
                exact ret3 rfl hE hle hH (by kernel_rfl)
              · replace h := ifF hc h
                refine wp_skip ?_
                refine Exit.then_normal (hK25 _ _ ?_)
                refine wp_seq_k (fun K hK29 => ?_)
                refine wp_region_from ?_
                refine segO 1 [] [(8, .kv (.int .u64) 0)] (Os := []) trivial hE hH (by kernel_rfl) (fun a hE => ?_)
                refine wpFrom_end (by kernel_rfl) ?_
                refine Exit.then_normal (hK29 _ _ ?_)
                refine wp_seq_k (fun K hK30 => ?_)
                refine wp_seq_k (fun K hK31 => ?_)
                refine wp_region_from ?_
                refine segO 2 [] [(9, .kv .i z15)] (Os := []) trivial hE hH (by kernel_rfl) (fun a hE => ?_)
                refine wpFrom_end (by kernel_rfl) ?_
                refine Exit.then_normal (hK31 _ _ ?_)
                refine wp_block ?_
                obtain ⟨z42, hz42, h⟩ := bs h
                refine loop_intro (fun Q34 c hQ hc => ?_)
                have key : ∀ (x32 : Int) (x33 : Int) (rr : Int × Int), f45_l1 p0 p1 x32 x33 = some rr → ∀ (a : Act) (w : World) (G : Gh), G0.le G → EnvR G 108 a [(0, .kv .str p0), (1, .kv .i p1), (4, .kv .i 0), (5, .kv .i 0), (6, .kv .i 0), (7, .kv .i z15), (8, .kv (.int .u64) x32), (9, .kv .i x33)] → Holds w G (tabs σ) (Ls) → (∀ z43 : Int × Int, rr = z43 → ∀ (a : Act) (w : World) (G : Gh), G0.le G → EnvR G 108 a [(0, .kv .str p0), (1, .kv .i p1), (4, .kv .i 0), (5, .kv .i 0), (6, .kv .i 0), (7, .kv .i z15), (8, .kv (.int .u64) z43.1), (9, .kv .i z43.2)] → Holds w G (tabs σ) (Ls) → Q34 (.exit 2) a w) → Rnd Try.prog c Q34 a w := by
                  refine f45_l1.partial_correctness p0 p1 _ ?_
                  intro self ih37 x32 x33 rr h a w G  hle hE hH hx35
                  refine rnd_step' hc ?_
                  refine wp_seq_k (fun K hK38 => ?_)
                  refine wp_seq_k (fun K hK39 => ?_)
                  refine wp_region_from ?_
                  refine segO 2 [] [(76, .kv .bool (decide (x33 ≥ 0)))] (Os := []) trivial hE hH (by kernel_rfl) (fun a hE => ?_)
                  refine wpFrom_end (by kernel_rfl) ?_
                  refine Exit.then_normal (hK39 _ _ ?_)
                  refine condE (b := decide (x33 ≥ 0)) hE (by kernel_rfl) (fun hc => ?_) (fun hc => ?_)
                  · replace h := ifT hc h
                    refine wp_skip ?_
                    refine Exit.then_normal (hK38 _ _ ?_)
                    refine wp_seq_k (fun K hK40 => ?_)
                    refine wp_block ?_
                    refine wp_region_from ?_
                    obtain ⟨q41, h⟩ := gd h
                    refine segO 11 [] [(8, .kv (.int .u64) (IntKind.wrap .u64 ((IntKind.wrap .u64 (x32 * 128)) + (IntKind.wrap .u64 (Int.tmod (btS p0 (IntKind.wrap .i64 (p1 + x33))) 128)))))] (Os := [_, _]) ⟨q41, (by decide : (128 : Int) ≠ 0), trivial⟩ hE hH (by kernel_rfl) (fun a hE => ?_)
                    refine wpFrom_end (by kernel_rfl) ?_
                    refine Exit.in_normal ?_
                    refine Exit.then_normal (hK40 _ _ ?_)
                    refine wp_region_from ?_
                    refine segO 3 [] [(9, .kv .i (IntKind.wrap .i64 (x33 - 1)))] (Os := []) trivial hE hH (by kernel_rfl) (fun a hE => ?_)
                    refine wpFrom_end (by kernel_rfl) ?_
                    refine Exit.then_normal ?_
                    exact ih37 _ _ _ h _ _ _  hle (hE.subC (by kernel_rfl)) hH hx35
                  · replace h := ifF hc h
                    refine wp_exit ?_
                    refine Exit.then_exit ?_
                    refine Exit.then_exit ?_
                    cases h
                    exact hx35 _ rfl _ _ _  hle (hE.subC (by kernel_rfl)) hH
                refine key _ _ _ hz42 _ _ _  hle (hE.subC (by kernel_rfl)) hH ?_
                · intro z43 hz a w G  hle hE hH
                  subst hz
                  rw [hQ]
                  refine Exit.in_eq ?_
                  refine Exit.then_normal (hK30 _ _ ?_)
                  refine wp_seq_k (fun K hK44 => ?_)
                  refine wp_seq_k (fun K hK45 => ?_)
                  refine wp_region_from ?_
                  refine segO 3 [] [(91, .kv .bool ((Int.tmod z42.1 2) == 0))] (Os := [_]) ⟨(by decide : (2 : Int) ≠ 0), trivial⟩ hE hH (by kernel_rfl) (fun a hE => ?_)
                  refine wpFrom_end (by kernel_rfl) ?_
                  refine Exit.then_normal (hK45 _ _ ?_)
                  refine condE (b := (Int.tmod z42.1 2) == 0) hE (by kernel_rfl) (fun hc => ?_) (fun hc => ?_)
                  · replace h := ifT hc h
                    refine wp_seq_k (fun K hK46 => ?_)
                    refine wp_region_from ?_
                    refine segO 10 [] [(4, .kv .i (IntKind.wrap .i64 (IntKind.wrap .u64 (Int.tdiv z42.1 2)))), (5, .kv .i (IntKind.wrap .i64 ((IntKind.wrap .i64 (p1 + z15)) + 1))), (6, .kv .i 0)] (Os := [_]) ⟨(by decide : (2 : Int) ≠ 0), trivial⟩ hE hH (by kernel_rfl) (fun a hE => ?_)
                    refine wpFrom_end (by kernel_rfl) ?_
                    refine Exit.then_normal (hK46 _ _ ?_)
                    refine wp_ret ?_
                    refine Exit.then_ret ?_
                    cases h
                    exact ret3 rfl hE hle hH (by kernel_rfl)
                  · replace h := ifF hc h
                    refine wp_skip ?_
                    refine Exit.then_normal (hK44 _ _ ?_)
                    refine wp_seq_k (fun K hK47 => ?_)
                    refine wp_region_from ?_
                    refine segO 12 [] [(4, .kv .i (IntKind.wrap .i64 ((IntKind.wrap .i64 (0 - (IntKind.wrap .i64 (IntKind.wrap .u64 (Int.tdiv z42.1 2))))) - 1))), (5, .kv .i (IntKind.wrap .i64 ((IntKind.wrap .i64 (p1 + z15)) + 1))), (6, .kv .i 0)] (Os := [_]) ⟨(by decide : (2 : Int) ≠ 0), trivial⟩ hE hH (by kernel_rfl) (fun a hE => ?_)
                    refine wpFrom_end (by kernel_rfl) ?_
                    refine Exit.then_normal (hK47 _ _ ?_)
                    refine wp_ret ?_
                    cases h
                    exact ret3 rfl hE hle hH (by kernel_rfl)
        · replace h := ifN hc h
          have hE := hE.setB 50 (by kernel_rfl) (bf hc)
          refine segO 7 [] [(57, .kv .bool false)] (Os := []) trivial hE hH (by kernel_rfl) (fun a hE => ?_)
          refine wpFrom_end (by kernel_rfl) ?_
          refine Exit.then_normal (hK18 _ _ ?_)
          refine condF hE (by kernel_rfl) rfl ?_
          refine wp_skip ?_
          refine Exit.then_normal (hK17 _ _ ?_)
          refine wp_seq_k (fun K hK48 => ?_)
          refine wp_seq_k (fun K hK49 => ?_)
          refine wp_region_from ?_
          refine segO 6 [] [(63, .kv .bool (decide ((IntKind.wrap .i64 (p1 + z15)) ≥ (p0.length : Int))))] (Os := []) trivial hE hH (by kernel_rfl) (fun a hE => ?_)
          refine wpFrom_end (by kernel_rfl) ?_
          refine Exit.then_normal (hK49 _ _ ?_)
          refine condE (b := decide ((IntKind.wrap .i64 (p1 + z15)) ≥ (p0.length : Int))) hE (by kernel_rfl) (fun hc => ?_) (fun hc => ?_)
          · replace h := ifT hc h
            refine wp_seq_k (fun K hK50 => ?_)
            refine wp_region_from ?_
            refine segO 3 [] [(4, .kv .i 0), (5, .kv .i 0), (6, .kv .i 5)] (Os := []) trivial hE hH (by kernel_rfl) (fun a hE => ?_)
            refine wpFrom_end (by kernel_rfl) ?_
            refine Exit.then_normal (hK50 _ _ ?_)
            refine wp_ret ?_
            refine Exit.then_ret ?_
            cases h
            exact ret3 rfl hE hle hH (by kernel_rfl)
          · replace h := ifF hc h
            refine wp_skip ?_
            refine Exit.then_normal (hK48 _ _ ?_)
            refine wp_seq_k (fun K hK51 => ?_)
            refine wp_seq_k (fun K hK52 => ?_)
            refine wp_region_from ?_
            obtain ⟨q53, h⟩ := gd h
            refine segO 10 [] [(73, .kv .bool (((btS p0 (IntKind.wrap .i64 (p1 + z15))) == 0) && (decide (z15 > 0))))] (Os := [_]) ⟨q53, trivial⟩ hE hH (by kernel_rfl) (fun a hE => ?_)
            refine wpFrom_end (by kernel_rfl) ?_
            refine Exit.then_normal (hK52 _ _ ?_)
            refine condE (b := ((btS p0 (IntKind.wrap .i64 (p1 + z15))) == 0) && (decide (z15 > 0))) hE (by kernel_rfl) (fun hc => ?_) (fun hc => ?_)
            · replace h := ifT hc h
              refine wp_seq_k (fun K hK54 => ?_)
              refine wp_region_from ?_
              refine segO 3 [] [(4, .kv .i 0), (5, .kv .i 0), (6, .kv .i 6)] (Os := []) trivial hE hH (by kernel_rfl) (fun a hE => ?_)
              refine wpFrom_end (by kernel_rfl) ?_
              refine Exit.then_normal (hK54 _ _ ?_)
              refine wp_ret ?_
              refine Exit.then_ret ?_
              cases h
              exact ret3 rfl hE hle hH (by kernel_rfl)
            · replace h := ifF hc h
              refine wp_skip ?_
              refine Exit.then_normal (hK51 _ _ ?_)
              refine wp_seq_k (fun K hK55 => ?_)
              refine wp_region_from ?_
              refine segO 1 [] [(8, .kv (.int .u64) 0)] (Os := []) trivial hE hH (by kernel_rfl) (fun a hE => ?_)
              refine wpFrom_end (by kernel_rfl) ?_
              refine Exit.then_normal (hK55 _ _ ?_)
              refine wp_seq_k (fun K hK56 => ?_)
              refine wp_seq_k (fun K hK57 => ?_)
              refine wp_region_from ?_
              refine segO 2 [] [(9, .kv .i z15)] (Os := []) trivial hE hH (by kernel_rfl) (fun a hE => ?_)
              refine wpFrom_end (by kernel_rfl) ?_
              refine Exit.then_normal (hK57 _ _ ?_)
              refine wp_block ?_
              obtain ⟨z68, hz68, h⟩ := bs h
              refine loop_intro (fun Q60 c hQ hc => ?_)
              have key : ∀ (x58 : Int) (x59 : Int) (rr : Int × Int), f45_l2 p0 p1 x58 x59 = some rr → ∀ (a : Act) (w : World) (G : Gh), G0.le G → EnvR G 108 a [(0, .kv .str p0), (1, .kv .i p1), (4, .kv .i 0), (5, .kv .i 0), (6, .kv .i 0), (7, .kv .i z15), (8, .kv (.int .u64) x58), (9, .kv .i x59)] → Holds w G (tabs σ) (Ls) → (∀ z69 : Int × Int, rr = z69 → ∀ (a : Act) (w : World) (G : Gh), G0.le G → EnvR G 108 a [(0, .kv .str p0), (1, .kv .i p1), (4, .kv .i 0), (5, .kv .i 0), (6, .kv .i 0), (7, .kv .i z15), (8, .kv (.int .u64) z69.1), (9, .kv .i z69.2)] → Holds w G (tabs σ) (Ls) → Q60 (.exit 2) a w) → Rnd Try.prog c Q60 a w := by
                refine f45_l2.partial_correctness p0 p1 _ ?_
                intro self ih63 x58 x59 rr h a w G  hle hE hH hx61
                refine rnd_step' hc ?_
                refine wp_seq_k (fun K hK64 => ?_)
                refine wp_seq_k (fun K hK65 => ?_)
                refine wp_region_from ?_
                refine segO 2 [] [(76, .kv .bool (decide (x59 ≥ 0)))] (Os := []) trivial hE hH (by kernel_rfl) (fun a hE => ?_)
                refine wpFrom_end (by kernel_rfl) ?_
                refine Exit.then_normal (hK65 _ _ ?_)
                refine condE (b := decide (x59 ≥ 0)) hE (by kernel_rfl) (fun hc => ?_) (fun hc => ?_)
                · replace h := ifT hc h
                  refine wp_skip ?_
                  refine Exit.then_normal (hK64 _ _ ?_)
                  refine wp_seq_k (fun K hK66 => ?_)
                  refine wp_block ?_
                  refine wp_region_from ?_
                  obtain ⟨q67, h⟩ := gd h
                  refine segO 11 [] [(8, .kv (.int .u64) (IntKind.wrap .u64 ((IntKind.wrap .u64 (x58 * 128)) + (IntKind.wrap .u64 (Int.tmod (btS p0 (IntKind.wrap .i64 (p1 + x59))) 128)))))] (Os := [_, _]) ⟨q67, (by decide : (128 : Int) ≠ 0), trivial⟩ hE hH (by kernel_rfl) (fun a hE => ?_)
                  refine wpFrom_end (by kernel_rfl) ?_
                  refine Exit.in_normal ?_
                  refine Exit.then_normal (hK66 _ _ ?_)
                  refine wp_region_from ?_
                  refine segO 3 [] [(9, .kv .i (IntKind.wrap .i64 (x59 - 1)))] (Os := []) trivial hE hH (by kernel_rfl) (fun a hE => ?_)
                  refine wpFrom_end (by kernel_rfl) ?_
                  refine Exit.then_normal ?_
                  exact ih63 _ _ _ h _ _ _  hle (hE.subC (by kernel_rfl)) hH hx61
                · replace h := ifF hc h
                  refine wp_exit ?_
                  refine Exit.then_exit ?_
                  refine Exit.then_exit ?_
                  cases h
                  exact hx61 _ rfl _ _ _  hle (hE.subC (by kernel_rfl)) hH
              refine key _ _ _ hz68 _ _ _  hle (hE.subC (by kernel_rfl)) hH ?_
              · intro z69 hz a w G  hle hE hH
                subst hz
                rw [hQ]
                refine Exit.in_eq ?_
                refine Exit.then_normal (hK56 _ _ ?_)
                refine wp_seq_k (fun K hK70 => ?_)
                refine wp_seq_k (fun K hK71 => ?_)
                refine wp_region_from ?_
                refine segO 3 [] [(91, .kv .bool ((Int.tmod z68.1 2) == 0))] (Os := [_]) ⟨(by decide : (2 : Int) ≠ 0), trivial⟩ hE hH (by kernel_rfl) (fun a hE => ?_)
                refine wpFrom_end (by kernel_rfl) ?_
                refine Exit.then_normal (hK71 _ _ ?_)
                refine condE (b := (Int.tmod z68.1 2) == 0) hE (by kernel_rfl) (fun hc => ?_) (fun hc => ?_)
                · replace h := ifT hc h
                  refine wp_seq_k (fun K hK72 => ?_)
                  refine wp_region_from ?_
                  refine segO 10 [] [(4, .kv .i (IntKind.wrap .i64 (IntKind.wrap .u64 (Int.tdiv z68.1 2)))), (5, .kv .i (IntKind.wrap .i64 ((IntKind.wrap .i64 (p1 + z15)) + 1))), (6, .kv .i 0)] (Os := [_]) ⟨(by decide : (2 : Int) ≠ 0), trivial⟩ hE hH (by kernel_rfl) (fun a hE => ?_)
                  refine wpFrom_end (by kernel_rfl) ?_
                  refine Exit.then_normal (hK72 _ _ ?_)
                  refine wp_ret ?_
                  refine Exit.then_ret ?_
                  cases h
                  exact ret3 rfl hE hle hH (by kernel_rfl)
                · replace h := ifF hc h
                  refine wp_skip ?_
                  refine Exit.then_normal (hK70 _ _ ?_)
                  refine wp_seq_k (fun K hK73 => ?_)
                  refine wp_region_from ?_
                  refine segO 12 [] [(4, .kv .i (IntKind.wrap .i64 ((IntKind.wrap .i64 (0 - (IntKind.wrap .i64 (IntKind.wrap .u64 (Int.tdiv z68.1 2))))) - 1))), (5, .kv .i (IntKind.wrap .i64 ((IntKind.wrap .i64 (p1 + z15)) + 1))), (6, .kv .i 0)] (Os := [_]) ⟨(by decide : (2 : Int) ≠ 0), trivial⟩ hE hH (by kernel_rfl) (fun a hE => ?_)
                  refine wpFrom_end (by kernel_rfl) ?_
                  refine Exit.then_normal (hK73 _ _ ?_)
                  refine wp_ret ?_
                  cases h
                  exact ret3 rfl hE hle hH (by kernel_rfl)
end Go.Proofs.Ytlfemhkabjafeaa.M

/- Plain law: numbers read, as the program and as the reference read them. -/
set_option linter.unusedVariables false
set_option linter.unusedSimpArgs false
namespace Go.Proofs.Ytlfemhkabjafeaa.M

/-- The number that bytes begin with, before its sign is told; how many bytes it has. -/
def rdU : List UInt8 → Nat → Option (Nat × Nat)
  | [], _ => none
  | c :: r, i => if 9 ≤ i ∧ 1 < c.toNat then none else if 128 ≤ c.toNat then (match rdU r (i + 1) with
      | some (u, k) => some (c.toNat % 128 + 128 * u, k + 1)
      | none => none) else if c.toNat = 0 ∧ 0 < i then none else some (c.toNat, 1)

def zz (u : Nat) : Int := if u % 2 = 1 then -((u / 2 : Nat) : Int) - 1 else ((u / 2 : Nat) : Int)

def valU (l : List UInt8) : Nat := l.foldr (fun c u => c.toNat % 128 + 128 * u) 0

/-- How many bytes go on. -/
def lead : List UInt8 → Nat → Nat
  | [], i => i
  | c :: r, i => if i < 10 ∧ 128 ≤ c.toNat then lead r (i + 1) else i

theorem valU_lt : ∀ (l : List UInt8), valU l < 128 ^ l.length
  | [] => by simp [valU]
  | c :: r => by
    have := valU_lt r
    have h : c.toNat % 128 < 128 := Nat.mod_lt _ (by decide)
    simp only [valU, List.foldr_cons, List.length_cons, Nat.pow_succ] at this ⊢
    omega

theorem rdU_some : ∀ {t : List UInt8} {i u k : Nat}, i ≤ 9 → rdU t i = some (u, k) → 1 ≤ k ∧ k ≤ t.length ∧ i + k ≤ 10 ∧ u = valU (t.take k) ∧ u * 2 ^ (7 * i) < 2 ^ 64 ∧ (0 < i → u ≠ 0) ∧ lead t i = i + k - 1 ∧ t.take k = bytesS (vbI u) ∧
    (∃ c, t[k - 1]? = some c ∧ c.toNat < 128 ∧ (i + k = 10 → c.toNat ≤ 1) ∧ (c.toNat = 0 → i + k = 1))
  | [], i, u, k, hi, h => by simp [rdU] at h
  | c :: r, i, u, k, hi, h => by
    unfold rdU at h
    split at h
    · cases h
    · rename_i h1
      split at h
      · rename_i h2
        split at h
        · rename_i u' k' hr
          simp only [Option.some.injEq, Prod.mk.injEq] at h
          obtain ⟨rfl, rfl⟩ := h
          obtain ⟨g1, g2, g3, g4, g5, g6, g7, g8, c', g9, g10, g11, g12⟩ := rdU_some (by omega) hr
          have hlt : c.toNat < 256 := c.toNat_lt
          have hu := g6 (by omega)
          refine ⟨by omega, by simp; omega, by omega, ?_, ?_, by omega, ?_, ?_, c', ?_, g10, fun h => g11 (by omega), fun h => by have := g12 h; omega⟩
          · simp only [List.take_succ_cons, valU, List.foldr_cons]
            rw [g4]; rfl
          · have e : 2 ^ (7 * (i + 1)) = 128 * 2 ^ (7 * i) := by rw [Nat.mul_add, Nat.pow_add, Nat.mul_comm]
            rw [e] at g5
            have h64 : (2 : Nat) ^ 64 = 128 * 2 ^ (7 * i) * 2 ^ (57 - 7 * i) := by
              rw [← e, ← Nat.pow_add]; congr 1; omega
            have h3 : u' < 2 ^ (57 - 7 * i) := by
              rw [h64, Nat.mul_comm u'] at g5
              exact Nat.lt_of_mul_lt_mul_left g5
            have h4 : c.toNat % 128 + 128 * u' < 128 * 2 ^ (57 - 7 * i) := by
              have := Nat.mod_lt c.toNat (show 128 > 0 by decide)
              omega
            have h5 : 128 * 2 ^ (57 - 7 * i) * 2 ^ (7 * i) = 2 ^ 64 := by rw [h64]; ac_rfl
            rw [← h5]
            exact Nat.mul_lt_mul_of_pos_right h4 (Nat.pow_pos (by decide))
          · unfold lead
            rw [if_pos ⟨by omega, h2⟩, g7]; omega
          · have hb : ¬ c.toNat % 128 + 128 * u' < 128 := by omega
            rw [vbI_big hb, List.take_succ_cons, g8]
            have e1 : (c.toNat % 128 + 128 * u') % 128 + 128 = c.toNat := by omega
            have e2 : (c.toNat % 128 + 128 * u') / 128 = u' := by omega
            rw [e1, e2]
            show c :: bytesS (vbI u') = UInt8.ofNat ((c.toNat : Int).toNat) :: bytesS (vbI u')
            simp
          · have : k' + 1 - 1 = (k' - 1) + 1 := by omega
            rw [this, List.getElem?_cons_succ]; exact g9
        · cases h
      · rename_i h2
        split at h
        · cases h
        · rename_i h3
          simp only [Option.some.injEq, Prod.mk.injEq] at h
          obtain ⟨rfl, rfl⟩ := h
          refine ⟨by omega, by simp, by omega, ?_, ?_, by omega, ?_, ?_, c, by simp, by omega, fun h => by omega, fun h => by omega⟩
          · simp only [List.take_succ_cons, List.take_zero, valU, List.foldr_cons, List.foldr_nil]; omega
          · have hc : c.toNat < 2 ^ (64 - 7 * i) := by
              by_cases h9 : 9 ≤ i
              · have : i = 9 := by omega
                subst this
                have : c.toNat ≤ 1 := by omega
                have : (2 : Nat) ^ (64 - 7 * 9) = 2 := by decide
                omega
              · have : (2 : Nat) ^ 7 ≤ 2 ^ (64 - 7 * i) := Nat.pow_le_pow_right (by decide) (by omega)
                omega
            have h5 : 2 ^ (64 - 7 * i) * 2 ^ (7 * i) = 2 ^ 64 := by rw [← Nat.pow_add]; congr 1; omega
            rw [← h5]
            exact Nat.mul_lt_mul_of_pos_right hc (Nat.pow_pos (by decide))
          · unfold lead
            rw [if_neg (by omega)]; omega
          · rw [vbI_small (by omega)]
            show [c] = [UInt8.ofNat ((c.toNat : Int).toNat)]
            simp

theorem rdU_none : ∀ {t : List UInt8} {i : Nat}, i ≤ 9 → rdU t i = none → i ≤ lead t i ∧ (lead t i = 10 ∨ t.length ≤ lead t i - i ∨ ∃ c, t[lead t i - i]? = some c ∧ c.toNat < 128 ∧ ((lead t i = 9 ∧ 1 < c.toNat) ∨ (c.toNat = 0 ∧ 0 < lead t i)))
  | [], i, hi, h => ⟨Nat.le_refl _, .inr (.inl (by simp [lead]))⟩
  | c :: r, i, hi, h => by
    unfold rdU at h
    unfold lead
    by_cases h2 : 128 ≤ c.toNat
    · rw [if_pos ⟨by omega, h2⟩]
      by_cases h9 : i = 9
      · subst h9
        have e : lead r (9 + 1) = 10 := by
          cases r with
          | nil => rfl
          | cons d r => unfold lead; rw [if_neg (by omega)]
        exact ⟨by omega, .inl e⟩
      · rw [if_neg (by omega), if_pos h2] at h
        have hr : rdU r (i + 1) = none := by
          rcases Option.eq_none_or_eq_some (rdU r (i + 1)) with hq | ⟨q, hq⟩
          · exact hq
          · rw [hq] at h; cases h
        obtain ⟨g1, g2⟩ := rdU_none (by omega) hr
        refine ⟨by omega, ?_⟩
        rcases g2 with g2 | g2 | ⟨c', g2, g3, g4⟩
        · exact .inl g2
        · exact .inr (.inl (by simp; omega))
        · refine .inr (.inr ⟨c', ?_, g3, g4⟩)
          have : lead r (i + 1) - i = (lead r (i + 1) - (i + 1)) + 1 := by omega
          rw [this, List.getElem?_cons_succ]; exact g2
    · rw [if_neg (by omega)]
      refine ⟨Nat.le_refl _, .inr (.inr ⟨c, by simp, by omega, ?_⟩)⟩
      by_cases c1 : 9 ≤ i ∧ 1 < c.toNat
      · exact .inl (by omega)
      · rw [if_neg c1, if_neg h2] at h
        by_cases c2 : c.toNat = 0 ∧ 0 < i
        · exact .inr (by omega)
        · rw [if_neg c2] at h; cases h

theorem lead_le : ∀ (t : List UInt8) (i : Nat), i ≤ 10 → i ≤ lead t i ∧ lead t i ≤ 10 ∧ lead t i - i ≤ t.length
  | [], i, hi => by simp [lead, hi]
  | c :: r, i, hi => by
    unfold lead
    split
    · have := lead_le r (i + 1) (by omega)
      simp only [List.length_cons]; omega
    · simp [hi]

/-! ### As the program reads -/
theorem not64 {m : Nat} (hm : m < 9223372036854775808) : IntKind.wrap .i64 ((BitVec.ofInt (IntKind.bits .i64) (if IntKind.signed .i64 = true then -1 else IntKind.max .i64) ^^^ BitVec.ofInt (IntKind.bits .i64) (m : Int)).toNat) = -(m : Int) - 1 := by
  have e1 : BitVec.ofInt (IntKind.bits .i64) (m : Int) = BitVec.ofNat 64 m := ofInt_nat 64 m
  have e2 : BitVec.ofInt (IntKind.bits .i64) (if IntKind.signed .i64 = true then -1 else IntKind.max .i64) = BitVec.allOnes 64 := by
    show BitVec.ofInt 64 (if IntKind.signed .i64 = true then -1 else IntKind.max .i64) = BitVec.allOnes 64
    decide
  rw [e1, e2]
  have e3 : (BitVec.allOnes 64 ^^^ BitVec.ofNat 64 m).toNat = 18446744073709551615 - m := by
    rw [BitVec.allOnes_xor, BitVec.toNat_not, BitVec.toNat_ofNat, Nat.mod_eq_of_lt (by omega)]
  have e4 : ((BitVec.allOnes 64 ^^^ BitVec.ofNat 64 m : BitVec 64)).toNat = 18446744073709551615 - m := e3
  show IntKind.wrap .i64 (((BitVec.allOnes 64 ^^^ BitVec.ofNat 64 m : BitVec 64).toNat : Nat) : Int) = _
  rw [e4, IntKind.wrap_i64]
  omega

theorem f113_all (s : List UInt8) (p : Nat) (hs : s.length < 9223372036854775808) (hp : p ≤ s.length) : ∀ (t : List UInt8) (i acc : Nat), s.drop (p + i) = t → p + i ≤ s.length → i ≤ 9 → acc < 2 ^ (7 * i) →
    (∃ u k, rdU t i = some (u, k) ∧ f113_l0 s (p : Int) (acc : Int) (i : Int) = some (.inr (zz (acc + u * 2 ^ (7 * i)), ((p + i + k : Nat) : Int), 0))) ∨
    (rdU t i = none ∧ (f113_l0 s (p : Int) (acc : Int) (i : Int) = some (.inr (0, 0, 6)) ∨ ∃ z, f113_l0 s (p : Int) (acc : Int) (i : Int) = some (.inl z)))
  | [], i, acc, hd, hpi, hi, ha => by
    refine .inr ⟨rfl, .inr ?_⟩
    rw [f113_l0]
    have hl : s.length ≤ p + i := by
      have := congrArg List.length hd
      rw [List.length_drop] at this
      simp only [List.length_nil] at this
      omega
    have hw : IntKind.wrap .i64 ((p : Int) + (i : Int)) = ((p + i : Nat) : Int) := by rw [wrap_id (by omega) (by omega)]; omega
    rw [hw, if_neg (by simp; omega)]
    exact ⟨_, rfl⟩
  | c :: r, i, acc, hd, hpi, hi, ha => by
    rw [f113_l0]
    obtain ⟨h1, h2, h3⟩ := at_drop hd
    have hc : c.toNat < 256 := c.toNat_lt
    have hw : IntKind.wrap .i64 ((p : Int) + (i : Int)) = ((p + i : Nat) : Int) := by rw [wrap_id (by omega) (by omega)]; omega
    have hw7 : IntKind.wrap .i64 (7 * (i : Int)) = ((7 * i : Nat) : Int) := by rw [wrap_id (by omega) (by omega)]; omega
    have hw1 : IntKind.wrap .i64 ((i : Int) + 1) = ((i + 1 : Nat) : Int) := by rw [wrap_id (by omega) (by omega)]; omega
    have hmin : min (Int.toNat ((7 * i : Nat) : Int)) (IntKind.bits .u64) = 7 * i := by
      have : Int.toNat ((7 * i : Nat) : Int) = 7 * i := by omega
      rw [this]
      show min (7 * i) 64 = 7 * i
      omega
    rw [hw, hw7, hw1, h2, hmin, and127 hc]
    rw [if_pos (by simp; omega), if_pos (by omega)]
    by_cases c9 : i = 9 ∧ 1 < c.toNat
    · rw [if_pos (by simp; omega)]
      refine .inr ⟨?_, .inl rfl⟩
      unfold rdU
      rw [if_pos (by omega)]
    rw [if_neg (by simp; omega), if_pos (by omega)]
    have hm : c.toNat % 128 < 2 ^ (64 - 7 * i) := by
      by_cases h9 : i = 9
      · subst h9
        have : (2 : Nat) ^ (64 - 7 * 9) = 2 := by decide
        omega
      · have : (2 : Nat) ^ 7 ≤ 2 ^ (64 - 7 * i) := Nat.pow_le_pow_right (by decide) (by omega)
        omega
    have h5 : 2 ^ (64 - 7 * i) * 2 ^ (7 * i) = 2 ^ 64 := by rw [← Nat.pow_add]; congr 1; omega
    have hle : (c.toNat % 128) * 2 ^ (7 * i) + 2 ^ (7 * i) ≤ 2 ^ 64 := by
      rw [← h5, ← Nat.succ_mul]
      exact Nat.mul_le_mul_right _ hm
    have h64 : (2 : Nat) ^ 64 = 18446744073709551616 := by decide
    have e1 : IntKind.wrap .u64 (IntKind.wrap .u64 ((c.toNat % 128 : Nat) : Int) * 2 ^ (7 * i)) = (((c.toNat % 128) * 2 ^ (7 * i) : Nat) : Int) := by
      have e : IntKind.wrap .u64 ((c.toNat % 128 : Nat) : Int) = ((c.toNat % 128 : Nat) : Int) := by rw [w64]; omega
      have e0 : ((c.toNat % 128 : Nat) : Int) * 2 ^ (7 * i) = (((c.toNat % 128) * 2 ^ (7 * i) : Nat) : Int) := by push_cast; rfl
      rw [e, e0, w64]
      omega
    have e2 : IntKind.wrap .u64 (((BitVec.ofInt (IntKind.bits .u64) (acc : Int) ||| BitVec.ofInt (IntKind.bits .u64) (((c.toNat % 128) * 2 ^ (7 * i) : Nat) : Int)).toNat : Nat) : Int) = ((acc + (c.toNat % 128) * 2 ^ (7 * i) : Nat) : Int) := by
      rw [or_add ha (by omega), w64]
      omega
    rw [e1, e2]
    by_cases cc : 128 ≤ c.toNat
    · rw [if_pos (by simp; omega)]
      have hi9 : i < 9 := by omega
      have e7 : 2 ^ (7 * (i + 1)) = 128 * 2 ^ (7 * i) := by rw [Nat.mul_add, Nat.pow_add, Nat.mul_comm]
      have hlt : acc + c.toNat % 128 * 2 ^ (7 * i) < 2 ^ (7 * (i + 1)) := by
        have h5 : c.toNat % 128 * 2 ^ (7 * i) ≤ 127 * 2 ^ (7 * i) := Nat.mul_le_mul_right _ (by omega)
        rw [e7]; omega
      have ih := f113_all s p hs hp r (i + 1) (acc + c.toNat % 128 * 2 ^ (7 * i)) (by rw [← Nat.add_assoc]; exact h3) (by omega) (by omega) hlt
      rcases ih with ⟨u, k, g1, g2⟩ | ⟨g1, g2⟩
      · refine .inl ⟨c.toNat % 128 + 128 * u, k + 1, ?_, ?_⟩
        · unfold rdU
          rw [if_neg (by omega), if_pos cc, g1]
        · rw [g2]
          have e : acc + c.toNat % 128 * 2 ^ (7 * i) + u * 2 ^ (7 * (i + 1)) = acc + (c.toNat % 128 + 128 * u) * 2 ^ (7 * i) := by
            rw [e7, Nat.add_assoc, ← Nat.mul_assoc, ← Nat.add_mul, Nat.mul_comm u]
          rw [e]
          congr 5
          omega
      · refine .inr ⟨?_, g2⟩
        unfold rdU
        rw [if_neg (by omega), if_pos cc, g1]
    · rw [if_neg (by simp; omega)]
      by_cases c0 : c.toNat = 0 ∧ 0 < i
      · rw [if_pos (by simp; omega)]
        refine .inr ⟨?_, .inl rfl⟩
        unfold rdU
        rw [if_neg (by omega), if_neg cc, if_pos c0]
      · rw [if_neg (by simp; omega)]
        have hmc : c.toNat % 128 = c.toNat := by omega
        rw [hmc] at hle ⊢
        have hr : rdU (c :: r) i = some (c.toNat, 1) := by
          unfold rdU
          rw [if_neg (by omega), if_neg cc, if_neg c0]
        refine .inl ⟨c.toNat, 1, hr, ?_⟩
        have hV : acc + c.toNat * 2 ^ (7 * i) < 2 ^ 64 := by omega
        rw [and_one _ hV]
        have e3 : Int.fdiv ((acc + c.toNat * 2 ^ (7 * i) : Nat) : Int) (2 ^ 1) = (((acc + c.toNat * 2 ^ (7 * i)) / 2 : Nat) : Int) := by
          rw [Int.fdiv_eq_ediv_of_nonneg _ (by decide)]; norm_cast
        have hh : (acc + c.toNat * 2 ^ (7 * i)) / 2 < 9223372036854775808 := by omega
        rw [e3, wrap_id (x := (((acc + c.toNat * 2 ^ (7 * i)) / 2 : Nat) : Int)) (by omega) (by omega)]
        have hw2 : IntKind.wrap .i64 (((p + i : Nat) : Int) + 1) = ((p + i + 1 : Nat) : Int) := by rw [wrap_id (by omega) (by omega)]; omega
        rw [hw2]
        unfold zz
        by_cases c1 : (acc + c.toNat * 2 ^ (7 * i)) % 2 = 1
        · rw [if_pos (by rw [c1, w64]; decide), if_pos c1]
          simp only [Option.bind_eq_bind, Option.bind_some]
          rw [not64 hh]
        · have c2 : (acc + c.toNat * 2 ^ (7 * i)) % 2 = 0 := by omega
          rw [if_neg (by rw [c2, w64]; decide), if_neg c1]
          simp only [Option.bind_eq_bind, Option.bind_some]

/-- What the program reads, whatever the bytes. -/
theorem f113_eq {s : List UInt8} {p : Nat} (hs : s.length < 9223372036854775808) (hp : p ≤ s.length) :
    (∃ u k, rdU (s.drop p) 0 = some (u, k) ∧ f113 s (p : Int) = some (zz u, ((p + k : Nat) : Int), 0)) ∨ (rdU (s.drop p) 0 = none ∧ ∃ e : Int, e ≠ 0 ∧ f113 s (p : Int) = some (0, 0, e)) := by
  unfold f113
  rw [if_neg (by simp; omega)]
  have h := f113_all s p hs hp (s.drop p) 0 0 (by simp) (by omega) (by omega) (by simp)
  rw [show (((0 : Nat) : Int)) = (0 : Int) from rfl] at h
  rcases h with ⟨u, k, g1, g2⟩ | ⟨g1, g2 | ⟨z, g2⟩⟩
  · refine .inl ⟨u, k, g1, ?_⟩
    rw [g2]; simp
  · exact .inr ⟨g1, 6, by decide, by rw [g2]; rfl⟩
  · exact .inr ⟨g1, 5, by decide, by rw [g2]; rfl⟩

/-! ### As the reference reads -/
theorem f45_lead (s : List UInt8) (p : Nat) (hs : s.length < 9223372036854775808) : ∀ (t : List UInt8) (i : Nat), s.drop (p + i) = t → p + i ≤ s.length → i ≤ 10 → f45_l0 s (p : Int) (i : Int) = some ((lead t i : Nat) : Int)
  | [], i, hd, hpi, hi => by
    rw [f45_l0]
    have hl : s.length ≤ p + i := by
      have := congrArg List.length hd
      rw [List.length_drop] at this
      simp only [List.length_nil] at this
      omega
    have hw : IntKind.wrap .i64 ((p : Int) + (i : Int)) = ((p + i : Nat) : Int) := by rw [wrap_id (by omega) (by omega)]; omega
    rw [hw, if_neg (by simp; omega)]
    rfl
  | c :: r, i, hd, hpi, hi => by
    rw [f45_l0]
    obtain ⟨h1, h2, h3⟩ := at_drop hd
    have hw : IntKind.wrap .i64 ((p : Int) + (i : Int)) = ((p + i : Nat) : Int) := by rw [wrap_id (by omega) (by omega)]; omega
    have hw1 : IntKind.wrap .i64 ((i : Int) + 1) = ((i + 1 : Nat) : Int) := by rw [wrap_id (by omega) (by omega)]; omega
    rw [hw, hw1, h2]
    unfold lead
    by_cases c1 : i < 10
    · rw [if_pos (by simp; omega), if_pos (by omega)]
      by_cases c2 : 128 ≤ c.toNat
      · rw [if_pos (by simp; omega), if_pos ⟨c1, c2⟩]
        exact f45_lead s p hs r (i + 1) (by rw [← Nat.add_assoc]; exact h3) (by omega) (by omega)
      · rw [if_neg (by simp; omega), if_neg (by omega)]
    · rw [if_neg (by simp; omega), if_neg (by omega)]

theorem valU_drop {l : List UInt8} {j : Nat} (h : j < l.length) : valU (l.drop j) = l[j].toNat % 128 + 128 * valU (l.drop (j + 1)) := by
  have hd : l.drop j = l[j] :: l.drop (j + 1) := by simp
  rw [hd]; rfl

theorem f45_sum (s : List UInt8) (p : Nat) (l : List UInt8) (hs : s.length < 9223372036854775808) (hl : l <+: s.drop p) (hv : valU l < 2 ^ 64) (hl10 : l.length ≤ 10) : ∀ (j : Nat), j ≤ l.length →
    f45_l1 s (p : Int) ((valU (l.drop j) : Nat) : Int) ((j : Int) - 1) = some (((valU l : Nat) : Int), -1) ∧ f45_l2 s (p : Int) ((valU (l.drop j) : Nat) : Int) ((j : Int) - 1) = some (((valU l : Nat) : Int), -1)
  | 0, hj => by
    rw [f45_l1, f45_l2]
    simp
  | j + 1, hj => by
    rw [f45_l1, f45_l2]
    have hjl : j < l.length := by omega
    obtain ⟨w, hw⟩ := hl
    have hlen : p + l.length ≤ s.length := by
      have := congrArg List.length hw
      rw [List.length_append, List.length_drop] at this; omega
    have hat : btS s ((p + j : Nat) : Int) = (l[j].toNat : Int) := by
      rw [btS_at (by omega)]
      congr 2
      have h1 : (s.drop p)[j]? = some l[j] := by rw [← hw, List.getElem?_append_left hjl]; simp
      rw [List.getElem?_drop] at h1
      exact (List.getElem?_eq_some_iff.1 h1).2
    have e0 : ((j + 1 : Nat) : Int) - 1 = (j : Int) := by omega
    have hwp : IntKind.wrap .i64 ((p : Int) + (j : Int)) = ((p + j : Nat) : Int) := by rw [wrap_id (by omega) (by omega)]; omega
    have hw1 : IntKind.wrap .i64 ((j : Int) - 1) = (j : Int) - 1 := wrap_id (by omega) (by omega)
    have hdv := valU_drop hjl
    have hmono : ∀ (a b : List UInt8), valU b ≤ valU (a ++ b) := by
      intro a
      induction a with
      | nil => intro b; exact Nat.le_refl _
      | cons x a ih =>
        intro b
        have := ih b
        simp only [List.cons_append, valU, List.foldr_cons] at this ⊢
        omega
    have hle : valU (l.drop j) ≤ valU l := by
      have := hmono (l.take j) (l.drop j)
      rwa [List.take_append_drop] at this
    have h64 : (2 : Nat) ^ 64 = 18446744073709551616 := by decide
    have hc : l[j].toNat < 256 := l[j].toNat_lt
    have em : Int.tmod (l[j].toNat : Int) 128 = ((l[j].toNat % 128 : Nat) : Int) := by rw [Int.tmod_eq_emod_of_nonneg (by omega)]; omega
    have e2 : IntKind.wrap .u64 (IntKind.wrap .u64 (((valU (l.drop (j + 1)) : Nat) : Int) * 128) + IntKind.wrap .u64 ((l[j].toNat % 128 : Nat) : Int)) = ((valU (l.drop j) : Nat) : Int) := by
      rw [hdv] at hle ⊢
      rw [w64, w64, w64]
      omega
    obtain ⟨i1, i2⟩ := f45_sum s p l hs ⟨w, hw⟩ hv hl10 j (by omega)
    rw [e0, hwp, hw1, hat, em, e2]
    rw [if_pos (by simp), if_pos (by omega), if_pos (by simp), if_pos (by omega)]
    exact ⟨i1, i2⟩

/-- What the reference reads, whatever the bytes. -/
theorem f45_eq {s : List UInt8} {p : Nat} (hs : s.length < 4611686018427387904) (hp : p ≤ s.length) :
    (∃ u k, rdU (s.drop p) 0 = some (u, k) ∧ f45 s (p : Int) = some (zz u, ((p + k : Nat) : Int), 0)) ∨ (rdU (s.drop p) 0 = none ∧ ∃ e : Int, e ≠ 0 ∧ f45 s (p : Int) = some (0, 0, e)) := by
  have hL := f45_lead s p (by omega) (s.drop p) 0 (by simp) (by omega) (by omega)
  rw [show (((0 : Nat) : Int)) = (0 : Int) from rfl] at hL
  obtain ⟨_, hj10, hjl⟩ := lead_le (s.drop p) 0 (by omega)
  have hdl : (s.drop p).length = s.length - p := List.length_drop
  unfold f45
  rw [if_neg (by simp; omega), hL]
  simp only [Option.bind_eq_bind, Option.bind_some]
  have hw9 : IntKind.wrap .i64 ((p : Int) + 9) = ((p + 9 : Nat) : Int) := by rw [wrap_id (by omega) (by omega)]; omega
  have hwj : IntKind.wrap .i64 ((p : Int) + ((lead (s.drop p) 0 : Nat) : Int)) = ((p + lead (s.drop p) 0 : Nat) : Int) := by rw [wrap_id (by omega) (by omega)]; omega
  rw [hw9, hwj]
  have hat : ∀ (j : Nat) (c : UInt8), (s.drop p)[j]? = some c → p + j < s.length ∧ btS s ((p + j : Nat) : Int) = (c.toNat : Int) := by
    intro j c hc
    rw [List.getElem?_drop] at hc
    obtain ⟨h1, h2⟩ := List.getElem?_eq_some_iff.1 hc
    exact ⟨h1, by rw [btS_at h1, h2]⟩
  cases hr : rdU (s.drop p) 0 with
  | none =>
    refine .inr ⟨rfl, ?_⟩
    obtain ⟨_, g2⟩ := rdU_none (by omega) hr
    rcases g2 with g2 | g2 | ⟨c, g2, g3, g4⟩
    · exact ⟨6, by decide, by rw [if_pos (by simp; omega)]⟩
    · by_cases h10 : 10 ≤ lead (s.drop p) 0
      · exact ⟨6, by decide, by rw [if_pos (by simp; omega)]⟩
      · refine ⟨5, by decide, ?_⟩
        rw [if_neg (by simp; omega), if_neg (by simp; omega), if_pos (by simp; omega)]
    · rw [Nat.sub_zero] at g2
      obtain ⟨h1, h2⟩ := hat _ _ g2
      rcases g4 with ⟨g4, g5⟩ | ⟨g4, g5⟩
      · refine ⟨6, by decide, ?_⟩
        rw [g4] at h1 h2 ⊢
        rw [if_neg (by simp), if_pos (by simp; omega), if_pos (by omega), h2, if_pos (by simp; omega)]
      · refine ⟨6, by decide, ?_⟩
        by_cases h10 : 10 ≤ lead (s.drop p) 0
        · rw [if_pos (by simp; omega)]
        rw [if_neg (by simp; omega)]
        by_cases h9 : lead (s.drop p) 0 = 9
        · rw [h9] at h1 h2 ⊢
          rw [if_pos (by simp; omega), if_pos (by omega), h2, if_neg (by simp; omega), if_neg (by simp; omega), if_pos (by omega), if_pos (by simp; omega)]
        · rw [if_neg (by simp; omega), if_neg (by simp; omega), if_pos (by omega), h2, if_pos (by simp; omega)]
  | some uk =>
    obtain ⟨u, k⟩ := uk
    obtain ⟨g1, g2, g3, g4, g5, g6, g7, g8, c, g9, g10, g11, g12⟩ := rdU_some (by omega) hr
    refine .inl ⟨u, k, rfl, ?_⟩
    have hj : lead (s.drop p) 0 = k - 1 := by omega
    obtain ⟨h1, h2⟩ := hat _ _ g9
    have hlen : ((s.drop p).take k).length = k := by rw [List.length_take]; omega
    have hsum := f45_sum s p ((s.drop p).take k) (by omega) (List.take_prefix _ _) (by rw [← g4]; simpa using g5) (by omega) k (by omega)
    rw [← g4] at hsum
    have hdn : valU (((s.drop p).take k).drop k) = 0 := by rw [List.drop_of_length_le (by omega)]; rfl
    rw [hdn, show (((0 : Nat) : Int)) = (0 : Int) from rfl, show ((k : Int) - 1) = ((k - 1 : Nat) : Int) by omega] at hsum
    rw [hj]
    have hu : u < 18446744073709551616 := by have : (2 : Nat) ^ 64 = 18446744073709551616 := by decide
                                             simp only [Nat.mul_zero, Nat.pow_zero, Nat.mul_one] at g5; omega
    have e1 : Int.tmod (u : Int) 2 = ((u % 2 : Nat) : Int) := by rw [Int.tmod_eq_emod_of_nonneg (by omega)]; omega
    have e2 : IntKind.wrap .u64 (Int.tdiv (u : Int) 2) = ((u / 2 : Nat) : Int) := by rw [Int.tdiv_eq_ediv_of_nonneg (by omega), w64]; omega
    have e3 : IntKind.wrap .i64 ((u / 2 : Nat) : Int) = ((u / 2 : Nat) : Int) := wrap_id (by omega) (by omega)
    have e4 : IntKind.wrap .i64 (IntKind.wrap .i64 (0 - ((u / 2 : Nat) : Int)) - 1) = -((u / 2 : Nat) : Int) - 1 := by
      rw [wrap_id (x := 0 - ((u / 2 : Nat) : Int)) (by omega) (by omega), wrap_id (by omega) (by omega)]; omega
    have e5 : IntKind.wrap .i64 (((p + (k - 1) : Nat) : Int) + 1) = ((p + k : Nat) : Int) := by rw [wrap_id (by omega) (by omega)]; omega
    have fin : ∀ z : Int × Int, z.1 = (u : Int) → (if (Int.tmod z.1 2 == 0) = true then some (IntKind.wrap .i64 (IntKind.wrap .u64 (Int.tdiv z.1 2)), IntKind.wrap .i64 (((p + (k - 1) : Nat) : Int) + 1), (0 : Int)) else
        some (IntKind.wrap .i64 (IntKind.wrap .i64 (0 - IntKind.wrap .i64 (IntKind.wrap .u64 (Int.tdiv z.1 2))) - 1), IntKind.wrap .i64 (((p + (k - 1) : Nat) : Int) + 1), 0)) = some (zz u, ((p + k : Nat) : Int), (0 : Int)) := by
      intro z hz
      rw [hz, e1, e2, e3, e4, e5]
      unfold zz
      by_cases c1 : u % 2 = 1
      · rw [if_neg (by rw [c1]; decide), if_pos c1]
      · have : u % 2 = 0 := by omega
        rw [if_pos (by rw [this]; decide), if_neg c1]
    rw [if_neg (by simp; omega)]
    by_cases h9 : k - 1 = 9
    · have hc1 := g11 (by omega)
      rw [h9] at h1 h2 hsum fin ⊢
      rw [if_pos (by simp; omega), if_pos (by omega), h2, if_neg (by simp; omega), if_neg (by simp; omega), if_pos (by omega), if_neg (by simp; intro h; have := g12 h; omega), hsum.1]
      simp only [Option.bind_some]
      exact fin ((u : Int), -1) rfl
    · rw [if_neg (by simp; omega), if_neg (by simp; omega), if_pos (by omega), h2, if_neg (by simp; intro h; have := g12 h; omega), hsum.2]
      simp only [Option.bind_some]
      exact fin ((u : Int), -1) rfl

/-- Bytes begin with the bytes of a number just when that number is read. -/
theorem rdU_numV {t : List UInt8} {n : Nat} (hn : n < 4611686018427387904) (ht : t.length < 9223372036854775808) : (∃ u k, rdU t 0 = some (u, k) ∧ zz u = (n : Int)) ↔ ((numV n).length ≤ t.length ∧ t.take (numV n).length = numV n) := by
  constructor
  · rintro ⟨u, k, h1, h2⟩
    obtain ⟨g1, g2, g3, g4, g5, g6, g7, g8, _⟩ := rdU_some (by omega) h1
    have hu : u = 2 * n := by
      unfold zz at h2
      split at h2 <;> omega
    have e : t.take k = numV n := by rw [g8, hu]; rfl
    have hl : (numV n).length = k := by rw [← e, List.length_take]; omega
    rw [hl]; exact ⟨g2, e⟩
  · rintro ⟨h1, h2⟩
    have hd : t.drop 0 = numV n ++ t.drop (numV n).length := by rw [List.drop_zero]; conv => lhs; rw [← List.take_append_drop (numV n).length t, h2]
    have h3 := f113_num (s := t) (p := 0) ht hn (by omega) hd
    rcases f113_eq (s := t) (p := 0) ht (by omega) with ⟨u, k, h4, h5⟩ | ⟨h4, e, h5, h6⟩
    · rw [h5] at h3
      simp only [Option.some.injEq, Prod.mk.injEq] at h3
      rw [List.drop_zero] at h4
      exact ⟨u, k, h4, h3.1⟩
    · rw [h6] at h3
      simp only [Option.some.injEq, Prod.mk.injEq] at h3
      exact absurd h3.2.2 h5

theorem rdU_len {t : List UInt8} {n u k : Nat} (hn : n < 4611686018427387904) (h : rdU t 0 = some (u, k)) (h2 : zz u = (n : Int)) : k = (numV n).length := by
  obtain ⟨g1, g2, g3, g4, g5, g6, g7, g8, _⟩ := rdU_some (by omega) h
  have hu : u = 2 * n := by
    unfold zz at h2
    split at h2 <;> omega
  have e : t.take k = numV n := by rw [g8, hu]; rfl
  rw [← e, List.length_take]; omega
end Go.Proofs.Ytlfemhkabjafeaa.M

/- Printed by own program: twins and walks. -/
set_option linter.unusedVariables false
set_option maxRecDepth 100000
namespace Go.Proofs.Ytlfemhkabjafeaa.M
open Go.Proofs (Try.prog Try.func50 Try.f50 Try.func13 Try.f13)

def f50_l0 (p0 : List UInt8) (l6 : List (List UInt8)) (x7 : Int) (x8 : Int) : Option (Sum ((List (List UInt8)) × Int × Int) ((List (List UInt8)) × Int)) :=
  if (decide (x7 ≥ 0)) = true then
  f45 p0 x8 >>= fun r16 =>
  if (((r16.2.2 != 0) || (decide (r16.1 < 0))) || (decide ((IntKind.wrap .i64 ((p0.length : Int) - r16.2.1)) < r16.1))) = true then
  some (.inr (l6, x8))
  else
  if (0 : Int) ≤ r16.2.1 ∧ r16.2.1 ≤ (IntKind.wrap .i64 (r16.2.1 + r16.1)) ∧ (IntKind.wrap .i64 (r16.2.1 + r16.1)) ≤ (p0.length : Int) then
  f44 ((p0.take (Int.toNat (IntKind.wrap .i64 (r16.2.1 + r16.1)))).drop (Int.toNat r16.2.1)) >>= fun r22 =>
  if (r22.2 != 0) = true then
  some (.inr (l6, x8))
  else
  f45 r22.1 0 >>= fun r27 =>
  if (((r27.2.2 != 0) || (r27.1 != x7)) || (decide ((IntKind.wrap .i64 ((r22.1.length : Int) - r27.2.1)) > 1024))) = true then
  some (.inr (l6, x8))
  else
  if (0 : Int) ≤ r27.2.1 ∧ r27.2.1 ≤ (r22.1.length : Int) then
  if (l6.length + 1) * 16 ≤ 140737488355328 then
  f50_l0 p0 (l6 ++ [r22.1.drop (Int.toNat r27.2.1)]) (IntKind.wrap .i64 (x7 + 1)) (IntKind.wrap .i64 (r16.2.1 + r16.1))
  else none
  else none
  else none
  else
  some (.inl (l6, x7, x8))
  partial_fixpoint

def f50 (p0 : List UInt8) (p1 : Int) : Option ((List (List UInt8)) × Int) :=
  f50_l0 p0 [] p1 0 >>= fun rr37 => (match rr37 with
  | .inr yy => some yy
  | .inl z36 =>
  some (z36.1, z36.2.2))

theorem f50_ok {p0 : List UInt8} {p1 : Int} {σ : St} {p : (List (List UInt8)) × Int} (h : f50 p0 p1 = some p) : Spec Try.prog 50 [.kv .str p0, .kv .i p1] (tabs σ) (.tup [⟨(.list .str), p.1⟩, ⟨.i, p.2⟩]) (tabs σ) := by
  refine Spec.intro Try.func50 (by kernel_rfl) rfl (by kernel_rfl) (fun a w G0 Ls hE hH hN => ?_)
  have hle : G0.le G0 := Gh.le_refl G0
  unfold f50 at h
  refine wp_seq_k (fun K hK1 => ?_)
  refine wp_region_from ?_
  refine segO 2 [] [(4, .val (.slice none 0 0)), (5, .kv .i 0)] (Os := []) trivial hE hH (by kernel_rfl) (fun a hE => ?_)
  refine wpFrom_end (by kernel_rfl) ?_
  refine Exit.then_normal (hK1 _ _ ?_)
  refine wp_seq_k (fun K hK2 => ?_)
  refine wp_region_from ?_
  refine segO 1 [] [(6, .val (.slice none 0 0))] (Os := []) trivial hE hH (by kernel_rfl) (fun a hE => ?_)
  refine wpFrom_end (by kernel_rfl) ?_
  refine Exit.then_normal (hK2 _ _ ?_)
  refine wp_seq_k (fun K hK3 => ?_)
  refine wp_region_from ?_
  refine segO 1 [] [(7, .kv .i 0)] (Os := []) trivial hE hH (by kernel_rfl) (fun a hE => ?_)
  refine wpFrom_end (by kernel_rfl) ?_
  refine Exit.then_normal (hK3 _ _ ?_)
  refine wp_seq_k (fun K hK4 => ?_)
  refine wp_block ?_
  have hE := hE.nilTl 6 .str (by kernel_rfl)
  have hH := hH.nilTk 9 16 .str
  obtain ⟨rr37, hrr37, h⟩ := bs h
  refine loop_intro (fun Q9 c hQ hc => ?_)
  have key : ∀ (l6 : List (List UInt8)) (x7 : Int) (x8 : Int) (rr : Sum ((List (List UInt8)) × Int × Int) ((List (List UInt8)) × Int)), f50_l0 p0 l6 x7 x8 = some rr → ∀ (a : Act) (w : World) (G : Gh) (v5 : Value), G0.le G → EnvR G 90 a [(0, .kv .str p0), (1, .kv .i x7), (4, .val (.slice none 0 0)), (5, .kv .i 0), (6, .tl v5 .str l6), (7, .kv .i x8)] → Holds w G (tabs σ) (LS.tk v5 9 16 .str l6 :: Ls) → (∀ z36 : (List (List UInt8)) × Int × Int, rr = .inl z36 → ∀ (a : Act) (w : World) (G : Gh) (v5 : Value), G0.le G → EnvR G 90 a [(0, .kv .str p0), (1, .kv .i z36.2.1), (4, .val (.slice none 0 0)), (5, .kv .i 0), (6, .tl v5 .str z36.1), (7, .kv .i z36.2.2)] → Holds w G (tabs σ) (LS.tk v5 9 16 .str z36.1 :: Ls) → Q9 (.exit 0) a w) → (∀ yy : (List (List UInt8)) × Int, rr = .inr yy → ∀ (a : Act) (w : World), PostB Try.prog Try.f50 G0 (.tup [⟨(.list .str), yy.1⟩, ⟨.i, yy.2⟩]) (tabs σ) Ls .ret a w → Q9 .ret a w) → Rnd Try.prog c Q9 a w := by
    refine f50_l0.partial_correctness p0 _ ?_
    intro self ih12 l6 x7 x8 rr h a w G v5 hle hE hH hx10 hret11
    refine rnd_step' hc ?_
    refine wp_seq_k (fun K hK13 => ?_)
    refine wp_seq_k (fun K hK14 => ?_)
    refine wp_region_from ?_
    refine segO 2 [] [(17, .kv .bool (decide (x7 ≥ 0)))] (Os := []) trivial hE hH (by kernel_rfl) (fun a hE => ?_)
    refine wpFrom_end (by kernel_rfl) ?_
    refine Exit.then_normal (hK14 _ _ ?_)
    refine condE (b := decide (x7 ≥ 0)) hE (by kernel_rfl) (fun hc => ?_) (fun hc => ?_)
    · replace h := ifT hc h
      refine wp_skip ?_
      refine Exit.then_normal (hK13 _ _ ?_)
      refine wp_block ?_
      refine wp_seq_k (fun K hK15 => ?_)
      refine wp_region_from ?_
      refine segO 2 [] [(19, .kv .str p0), (20, .kv .i x8)] (Os := []) trivial hE hH (by kernel_rfl) (fun a hE => ?_)
      obtain ⟨r16, hr16, h⟩ := bs h
      refine stepCall (d := (some 21)) (f45_ok hr16) hE hH (NoHole.cons (fun _ _ _ => rfl) hN) (by kernel_rfl) (by kernel_rfl) trivial (fun a w G hl1 hE hH => ?_)
      have hle := Gh.le_trans hle hl1
      refine segO 7 [] [(8, .kv .i r16.1), (9, .kv .i r16.2.1), (10, .kv .i r16.2.2)] (Os := []) trivial hE hH (by kernel_rfl) (fun a hE => ?_)
      refine wpFrom_end (by kernel_rfl) ?_
      refine Exit.then_normal (hK15 _ _ ?_)
      refine wp_seq_k (fun K hK17 => ?_)
      refine wp_seq_k (fun K hK18 => ?_)
      refine wp_region_from ?_
      refine segO 14 [] [(38, .kv .bool (((r16.2.2 != 0) || (decide (r16.1 < 0))) || (decide ((IntKind.wrap .i64 ((p0.length : Int) - r16.2.1)) < r16.1))))] (Os := []) trivial hE hH (by kernel_rfl) (fun a hE => ?_)
      refine wpFrom_end (by kernel_rfl) ?_
      refine Exit.then_normal (hK18 _ _ ?_)
      refine condE (b := ((r16.2.2 != 0) || (decide (r16.1 < 0))) || (decide ((IntKind.wrap .i64 ((p0.length : Int) - r16.2.1)) < r16.1))) hE (by kernel_rfl) (fun hc => ?_) (fun hc => ?_)
      · replace h := ifT hc h
        refine wp_seq_k (fun K hK19 => ?_)
        refine wp_region_from ?_
        refine segO 4 [] [(4, .tl v5 .str l6), (5, .kv .i x8)] (Os := []) trivial hE hH (by kernel_rfl) (fun a hE => ?_)
        refine wpFrom_end (by kernel_rfl) ?_
        refine Exit.then_normal (hK19 _ _ ?_)
        refine wp_ret ?_
        refine Exit.then_ret ?_
        refine Exit.in_ret ?_
        refine Exit.then_ret ?_
        have hH := hH.drop (fun _ _ _ => rfl)
        cases h
        exact hret11 _ rfl _ _ (ret2 rfl hE hle hH (by kernel_rfl))
      · replace h := ifF hc h
        refine wp_skip ?_
        refine Exit.then_normal (hK17 _ _ ?_)
        refine wp_seq_k (fun K hK20 => ?_)
        refine wp_region_from ?_
        obtain ⟨q21, h⟩ := gd h
        refine segO 6 [] [(47, .kv .str ((p0.take (Int.toNat (IntKind.wrap .i64 (r16.2.1 + r16.1)))).drop (Int.toNat r16.2.1)))] (Os := [_]) ⟨q21, trivial⟩ hE hH (by kernel_rfl) (fun a hE => ?_)
        obtain ⟨r22, hr22, h⟩ := bs h
        refine stepCall (d := (some 48)) (f44_ok hr22) hE hH (NoHole.cons (fun _ _ _ => rfl) hN) (by kernel_rfl) (by kernel_rfl) trivial (fun a w G hl2 hE hH => ?_)
        have hle := Gh.le_trans hle hl2
        refine segO 5 [] [(11, .kv .str r22.1), (12, .kv .i r22.2)] (Os := []) trivial hE hH (by kernel_rfl) (fun a hE => ?_)
        refine wpFrom_end (by kernel_rfl) ?_
        refine Exit.then_normal (hK20 _ _ ?_)
        refine wp_seq_k (fun K hK23 => ?_)
        refine wp_seq_k (fun K hK24 => ?_)
        refine wp_region_from ?_
        refine segO 2 [] [(52, .kv .bool (r22.2 != 0))] (Os := []) trivial hE hH (by kernel_rfl) (fun a hE => ?_)
        refine wpFrom_end (by kernel_rfl) ?_
        refine Exit.then_normal (hK24 _ _ ?_)
        refine condE (b := r22.2 != 0) hE (by kernel_rfl) (fun hc => ?_) (fun hc => ?_)
        · replace h := ifT hc h
          refine wp_seq_k (fun K hK25 => ?_)
          refine wp_region_from ?_
          refine segO 4 [] [(4, .tl v5 .str l6), (5, .kv .i x8)] (Os := []) trivial hE hH (by kernel_rfl) (fun a hE => ?_)
          refine wpFrom_end (by kernel_rfl) ?_
          refine Exit.then_normal (hK25 _ _ ?_)
          refine wp_ret ?_
          refine Exit.then_ret ?_
          refine Exit.in_ret ?_
          refine Exit.then_ret ?_
          have hH := hH.drop (fun _ _ _ => rfl)
          cases h
          exact hret11 _ rfl _ _ (ret2 rfl hE hle hH (by kernel_rfl))
        · replace h := ifF hc h
          refine wp_skip ?_
          refine Exit.then_normal (hK23 _ _ ?_)
          refine wp_seq_k (fun K hK26 => ?_)
          refine wp_region_from ?_
          refine segO 1 [] [(56, .kv .str r22.1)] (Os := []) trivial hE hH (by kernel_rfl) (fun a hE => ?_)
          obtain ⟨r27, hr27, h⟩ := bs h
          refine stepCall (d := (some 57)) (f45_ok hr27) hE hH (NoHole.cons (fun _ _ _ => rfl) hN) (by kernel_rfl) (by kernel_rfl) trivial (fun a w G hl3 hE hH => ?_)
          have hle := Gh.le_trans hle hl3
          refine segO 7 [] [(13, .kv .i r27.1), (14, .kv .i r27.2.1), (15, .kv .i r27.2.2)] (Os := []) trivial hE hH (by kernel_rfl) (fun a hE => ?_)
          refine wpFrom_end (by kernel_rfl) ?_
          refine Exit.then_normal (hK26 _ _ ?_)
          refine wp_seq_k (fun K hK28 => ?_)
          refine wp_seq_k (fun K hK29 => ?_)
          refine wp_region_from ?_
          refine segO 14 [] [(74, .kv .bool (((r27.2.2 != 0) || (r27.1 != x7)) || (decide ((IntKind.wrap .i64 ((r22.1.length : Int) - r27.2.1)) > 1024))))] (Os := []) trivial hE hH (by kernel_rfl) (fun a hE => ?_)
          refine wpFrom_end (by kernel_rfl) ?_
          refine Exit.then_normal (hK29 _ _ ?_)
          refine condE (b := ((r27.2.2 != 0) || (r27.1 != x7)) || (decide ((IntKind.wrap .i64 ((r22.1.length : Int) - r27.2.1)) > 1024))) hE (by kernel_rfl) (fun hc => ?_) (fun hc => ?_)
          · replace h := ifT hc h
            refine wp_seq_k (fun K hK30 => ?_)
            refine wp_region_from ?_
            refine segO 4 [] [(4, .tl v5 .str l6), (5, .kv .i x8)] (Os := []) trivial hE hH (by kernel_rfl) (fun a hE => ?_)
            refine wpFrom_end (by kernel_rfl) ?_
            refine Exit.then_normal (hK30 _ _ ?_)
            refine wp_ret ?_
            refine Exit.then_ret ?_
            refine Exit.in_ret ?_
            refine Exit.then_ret ?_
            have hH := hH.drop (fun _ _ _ => rfl)
            cases h
            exact hret11 _ rfl _ _ (ret2 rfl hE hle hH (by kernel_rfl))
          · replace h := ifF hc h
            refine wp_skip ?_
            refine Exit.then_normal (hK28 _ _ ?_)
            refine wp_seq_k (fun K hK31 => ?_)
            refine wp_region_from ?_
            obtain ⟨q32, h⟩ := gd h
            refine segO 4 [] [(77, .tl v5 .str l6), (80, .kv .str (r22.1.drop (Int.toNat r27.2.1)))] (Os := [_]) ⟨q32, trivial⟩ hE hH (by kernel_rfl) (fun a hE => ?_)
            refine stepBuildS (d := (some 81)) .str [r22.1.drop (Int.toNat r27.2.1)] hE hH (by kernel_rfl) (by kernel_rfl) (fun a w G hl4 hE hH => ?_)
            have hle := Gh.le_trans hle hl4
            obtain ⟨q33, h⟩ := gd h
            refine stepApp (e := 0) (bt := 16) (ys := [r22.1.drop (Int.toNat r27.2.1)]) (e' := 9) (d := (some 82)) 0 hE hH (by kernel_rfl) rfl (by kernel_rfl) q33 (fun v34 a w G hl5 hE hH => ?_)
            have hle := Gh.le_trans hle hl5
            refine segO 1 [] [(6, .tl v34 .str (l6 ++ [r22.1.drop (Int.toNat r27.2.1)]))] (Os := []) trivial hE hH (by kernel_rfl) (fun a hE => ?_)
            refine wpFrom_end (by kernel_rfl) ?_
            refine Exit.then_normal (hK31 _ _ ?_)
            refine wp_seq_k (fun K hK35 => ?_)
            refine wp_region_from ?_
            refine segO 4 [] [(7, .kv .i (IntKind.wrap .i64 (r16.2.1 + r16.1)))] (Os := []) trivial hE hH (by kernel_rfl) (fun a hE => ?_)
            refine wpFrom_end (by kernel_rfl) ?_
            refine Exit.then_normal (hK35 _ _ ?_)
            refine wp_region_from ?_
            refine segO 3 [] [(1, .kv .i (IntKind.wrap .i64 (x7 + 1)))] (Os := []) trivial hE hH (by kernel_rfl) (fun a hE => ?_)
            refine wpFrom_end (by kernel_rfl) ?_
            refine Exit.in_normal ?_
            refine Exit.then_normal ?_
            exact ih12 _ _ _ _ h _ _ _ v34 hle (hE.subC (by kernel_rfl)) hH hx10 hret11
    · replace h := ifF hc h
      refine wp_exit ?_
      refine Exit.then_exit ?_
      refine Exit.then_exit ?_
      cases h
      exact hx10 _ rfl _ _ _ v5 hle (hE.subC (by kernel_rfl)) hH
  refine key _ _ _ _ hrr37 _ _ _ (.slice none 0 0) hle (hE.subC (by kernel_rfl)) hH ?_ ?_
  · intro z36 hz a w G v5 hle hE hH
    subst hz
    rw [hQ]
    dsimp only at h
    refine Exit.in_eq ?_
    refine Exit.then_normal (hK4 _ _ ?_)
    refine wp_seq_k (fun K hK38 => ?_)
    refine wp_region_from ?_
    refine segO 4 [] [(4, .tl v5 .str z36.1), (5, .kv .i z36.2.2)] (Os := []) trivial hE hH (by kernel_rfl) (fun a hE => ?_)
    refine wpFrom_end (by kernel_rfl) ?_
    refine Exit.then_normal (hK38 _ _ ?_)
    refine wp_ret ?_
    have hH := hH.drop (fun _ _ _ => rfl)
    cases h
    exact ret2 rfl hE hle hH (by kernel_rfl)
  · intro yy hz a w hp
    subst hz
    dsimp only at h
    cases h
    rw [hQ]
    refine Exit.in_ret ?_
    refine Exit.then_ret ?_
    exact hp

def f13 (p0 : List UInt8) (p1 : Int) (σ : St) : Option (Bool × St) :=
  if ((decide ((p0.length : Int) > 5000)) || (decide (p1 > 1099511627776))) = true then
  f48 σ >>= fun r5 =>
  some (r5.1, r5.2)
  else
  f49 p0 p1 >>= fun r7 =>
  f50 p0 p1 >>= fun r9 =>
  f48 σ >>= fun r11 =>
  if r11.1 = true then
  f51 r7.1 r9.1 >>= fun r12 =>
  some (r12 && (r7.2 == r9.2), r11.2)
  else
  some (false, r11.2)

theorem f13_ok {p0 : List UInt8} {p1 : Int} {σ : St} {p : Bool × St} (h : f13 p0 p1 σ = some p) : Spec Try.prog 13 [.kv .str p0, .kv .i p1] (tabs σ) (.kv .bool p.1) (tabs p.2) := by
  refine Spec.intro Try.func13 (by kernel_rfl) rfl (by kernel_rfl) (fun a w G0 Ls hE hH hN => ?_)
  have hle : G0.le G0 := Gh.le_refl G0
  unfold f13 at h
  refine wp_seq_k (fun K hK1 => ?_)
  refine wp_region_from ?_
  refine segO 1 [] [(4, .kv .bool false)] (Os := []) trivial hE hH (by kernel_rfl) (fun a hE => ?_)
  refine wpFrom_end (by kernel_rfl) ?_
  refine Exit.then_normal (hK1 _ _ ?_)
  refine wp_seq_k (fun K hK2 => ?_)
  refine wp_seq_k (fun K hK3 => ?_)
  refine wp_region_from ?_
  refine segO 7 [] [(15, .kv .bool ((decide ((p0.length : Int) > 5000)) || (decide (p1 > 1099511627776))))] (Os := []) trivial hE hH (by kernel_rfl) (fun a hE => ?_)
  refine wpFrom_end (by kernel_rfl) ?_
  refine Exit.then_normal (hK3 _ _ ?_)
  refine condE (b := (decide ((p0.length : Int) > 5000)) || (decide (p1 > 1099511627776))) hE (by kernel_rfl) (fun hc => ?_) (fun hc => ?_)
  · replace h := ifT hc h
    refine wp_seq_k (fun K hK4 => ?_)
    refine wp_region_from ?_
    obtain ⟨r5, hr5, h⟩ := bs h
    refine stepCall (d := (some 16)) (f48_ok hr5) hE hH hN (by kernel_rfl) (by kernel_rfl) trivial (fun a w G hl1 hE hH => ?_)
    have hle := Gh.le_trans hle hl1
    refine segO 1 [] [(4, .kv .bool r5.1)] (Os := []) trivial hE hH (by kernel_rfl) (fun a hE => ?_)
    refine wpFrom_end (by kernel_rfl) ?_
    refine Exit.then_normal (hK4 _ _ ?_)
    refine wp_ret ?_
    refine Exit.then_ret ?_
    cases h
    exact ret1 rfl hE hle hH (by kernel_rfl)
  · replace h := ifF hc h
    refine wp_skip ?_
    refine Exit.then_normal (hK2 _ _ ?_)
    refine wp_seq_k (fun K hK6 => ?_)
    refine wp_region_from ?_
    refine segO 2 [] [(18, .kv .str p0), (19, .kv .i p1)] (Os := []) trivial hE hH (by kernel_rfl) (fun a hE => ?_)
    obtain ⟨r7, hr7, h⟩ := bs h
    refine stepCall (d := (some 20)) (f49_ok hr7) hE hH hN (by kernel_rfl) (by kernel_rfl) trivial (fun a w G hl2 hE hH => ?_)
    have hle := Gh.le_trans hle hl2
    refine segO 5 [] [(5, .kv (.list .str) r7.1), (6, .kv .i r7.2)] (Os := []) trivial hE hH (by kernel_rfl) (fun a hE => ?_)
    refine wpFrom_end (by kernel_rfl) ?_
    refine Exit.then_normal (hK6 _ _ ?_)
    refine wp_seq_k (fun K hK8 => ?_)
    refine wp_region_from ?_
    refine segO 2 [] [(24, .kv .str p0), (25, .kv .i p1)] (Os := []) trivial hE hH (by kernel_rfl) (fun a hE => ?_)
    obtain ⟨r9, hr9, h⟩ := bs h
    refine stepCall (d := (some 26)) (f50_ok hr9) hE hH hN (by kernel_rfl) (by kernel_rfl) trivial (fun a w G hl3 hE hH => ?_)
    have hle := Gh.le_trans hle hl3
    refine segO 5 [] [(7, .kv (.list .str) r9.1), (8, .kv .i r9.2)] (Os := []) trivial hE hH (by kernel_rfl) (fun a hE => ?_)
    refine wpFrom_end (by kernel_rfl) ?_
    refine Exit.then_normal (hK8 _ _ ?_)
    refine wp_seq_k (fun K hK10 => ?_)
    refine wp_region_from ?_
    obtain ⟨r11, hr11, h⟩ := bs h
    refine stepCall (d := (some 29)) (f48_ok hr11) hE hH hN (by kernel_rfl) (by kernel_rfl) trivial (fun a w G hl4 hE hH => ?_)
    have hle := Gh.le_trans hle hl4
    refine segO 1 [] [(30, .kv .bool r11.1)] (Os := []) trivial hE hH (by kernel_rfl) (fun a hE => ?_)
    by_cases hc : r11.1 = true
    · replace h := ifT hc h
      have hE := hE.setB 30 (by kernel_rfl) hc
      refine segO 2 [] [(31, .kv (.list .str) r7.1), (32, .kv (.list .str) r9.1)] (Os := []) trivial hE hH (by kernel_rfl) (fun a hE => ?_)
      obtain ⟨r12, hr12, h⟩ := bs h
      refine stepCall (d := (some 33)) (f51_ok hr12) hE hH hN (by kernel_rfl) (by kernel_rfl) trivial (fun a w G hl5 hE hH => ?_)
      have hle := Gh.le_trans hle hl5
      refine segO 7 [] [(4, .kv .bool (r12 && (r7.2 == r9.2)))] (Os := []) trivial hE hH (by kernel_rfl) (fun a hE => ?_)
      refine wpFrom_end (by kernel_rfl) ?_
      refine Exit.then_normal (hK10 _ _ ?_)
      refine wp_ret ?_
      cases h
      exact ret1 rfl hE hle hH (by kernel_rfl)
    · replace h := ifN hc h
      have hE := hE.setB 30 (by kernel_rfl) (bf hc)
      refine segO 10 [] [(4, .kv .bool false)] (Os := []) trivial hE hH (by kernel_rfl) (fun a hE => ?_)
      refine wpFrom_end (by kernel_rfl) ?_
      refine Exit.then_normal (hK10 _ _ ?_)
      refine wp_ret ?_
      cases h
      exact ret1 rfl hE hle hH (by kernel_rfl)
end Go.Proofs.Ytlfemhkabjafeaa.M

/- Plain law of the log: WalParses. -/
set_option linter.unusedVariables false
set_option linter.unusedSimpArgs false
namespace Go.Proofs.Ytlfemhkabjafeaa.M

/-- One record more, as the program reads it, and as the reference does. -/
theorem parse_step {s : List UInt8} (hs : s.length ≤ 5000) {p m : Nat} (hp : p ≤ s.length) (hm : m < 4611686018427387904) :
    (∃ x q, p < q ∧ q ≤ s.length ∧ f94 s (p : Int) (m : Int) = some (x, (q : Int), true) ∧
      ∀ l : List (List UInt8), l.length ≤ 5000 → f50_l0 s l (m : Int) (p : Int) = f50_l0 s (l ++ [x]) (IntKind.wrap .i64 ((m : Int) + 1)) (q : Int)) ∨
    (f94 s (p : Int) (m : Int) = some ([], 0, false) ∧ ∀ l : List (List UInt8), f50_l0 s l (m : Int) (p : Int) = some (.inr (l, (p : Int)))) := by
  have A := f113_eq (s := s) (p := p) (by omega) hp
  have B := f45_eq (s := s) (p := p) (by omega) hp
  have c0 : ((m : Int) ≥ 0) := by omega
  have un : ∀ l, f50_l0 s l (m : Int) (p : Int) = f45 s (p : Int) >>= fun r16 => if (((r16.2.2 != 0) || (decide (r16.1 < 0))) || (decide ((IntKind.wrap .i64 ((s.length : Int) - r16.2.1)) < r16.1))) = true then some (.inr (l, (p : Int))) else
      if (0 : Int) ≤ r16.2.1 ∧ r16.2.1 ≤ (IntKind.wrap .i64 (r16.2.1 + r16.1)) ∧ (IntKind.wrap .i64 (r16.2.1 + r16.1)) ≤ (s.length : Int) then
      f44 ((s.take (Int.toNat (IntKind.wrap .i64 (r16.2.1 + r16.1)))).drop (Int.toNat r16.2.1)) >>= fun r22 => if (r22.2 != 0) = true then some (.inr (l, (p : Int))) else
      f45 r22.1 0 >>= fun r27 => if (((r27.2.2 != 0) || (r27.1 != (m : Int))) || (decide ((IntKind.wrap .i64 ((r22.1.length : Int) - r27.2.1)) > 1024))) = true then some (.inr (l, (p : Int))) else
      if (0 : Int) ≤ r27.2.1 ∧ r27.2.1 ≤ (r22.1.length : Int) then
      if (l.length + 1) * 16 ≤ 140737488355328 then f50_l0 s (l ++ [r22.1.drop (Int.toNat r27.2.1)]) (IntKind.wrap .i64 ((m : Int) + 1)) (IntKind.wrap .i64 (r16.2.1 + r16.1)) else none else none else none := by
    intro l
    conv => lhs; rw [f50_l0]
    rw [if_pos (by simp)]
  have no : f94 s (p : Int) (m : Int) = some ([], 0, false) → (∀ l : List (List UInt8), f50_l0 s l (m : Int) (p : Int) = some (.inr (l, (p : Int)))) → _ := fun h1 h2 => (Or.inr ⟨h1, h2⟩ : (∃ x q, p < q ∧ q ≤ s.length ∧ f94 s (p : Int) (m : Int) = some (x, (q : Int), true) ∧
      ∀ l : List (List UInt8), l.length ≤ 5000 → f50_l0 s l (m : Int) (p : Int) = f50_l0 s (l ++ [x]) (IntKind.wrap .i64 ((m : Int) + 1)) (q : Int)) ∨
    (f94 s (p : Int) (m : Int) = some ([], 0, false) ∧ ∀ l : List (List UInt8), f50_l0 s l (m : Int) (p : Int) = some (.inr (l, (p : Int)))))
  rcases A with ⟨u, k, a1, a2⟩ | ⟨a1, e, a2, a3⟩
  case inr =>
    rcases B with ⟨u, k, b1, b2⟩ | ⟨b1, e', b2, b3⟩
    · rw [a1] at b1; cases b1
    refine no ?_ (fun l => ?_)
    · unfold f94
      rw [a3]
      simp only [Option.bind_eq_bind, Option.bind_some]
      rw [if_pos (by simp [a2])]
    · rw [un, b3]
      simp only [Option.bind_eq_bind, Option.bind_some]
      rw [if_pos (by simp [b2])]
  obtain ⟨k1, k2, k3, k4, k5, k6, k7, k8, _⟩ := rdU_some (by omega) a1
  rcases B with ⟨u', k', b1, b2⟩ | ⟨b1, _⟩
  case inr => rw [a1] at b1; cases b1
  rw [a1] at b1
  simp only [Option.some.injEq, Prod.mk.injEq] at b1
  obtain ⟨rfl, rfl⟩ := b1
  rw [List.length_drop] at k2
  have hw1 : IntKind.wrap .i64 ((s.length : Int) - ((p + k : Nat) : Int)) = ((s.length - (p + k) : Nat) : Int) := by rw [wrap_id (by omega) (by omega)]; omega
  by_cases c1 : zz u < 0 ∨ ((s.length - (p + k) : Nat) : Int) < zz u
  · refine no ?_ (fun l => ?_)
    · unfold f94
      rw [a2]
      simp only [Option.bind_eq_bind, Option.bind_some, hw1]
      rw [if_pos (by simp; omega)]
    · rw [un, b2]
      simp only [Option.bind_eq_bind, Option.bind_some, hw1]
      rw [if_pos (by simp; omega)]
  obtain ⟨w, hw⟩ : ∃ w : Nat, zz u = (w : Int) := ⟨(zz u).toNat, by omega⟩
  rw [hw] at a2 b2 c1
  have hq1 : p < p + k + w := by omega
  have hq2 : p + k + w ≤ s.length := by omega
  have hw2 : IntKind.wrap .i64 (((p + k : Nat) : Int) + (w : Int)) = ((p + k + w : Nat) : Int) := by rw [wrap_id (by omega) (by omega)]; omega
  have hi1 : Int.toNat ((p + k + w : Nat) : Int) = p + k + w := by omega
  have hi2 : Int.toNat ((p + k : Nat) : Int) = p + k := by omega
  have hsl : ((s.take (p + k + w)).drop (p + k)).length ≤ 5000 := by rw [List.length_drop, List.length_take]; omega
  -- sealed
  have C := f108_eq (s := (s.take (p + k + w)).drop (p + k)) (by omega)
  have D := f44_eq (s := (s.take (p + k + w)).drop (p + k)) (by omega)
  rcases C with ⟨t, h1, h2⟩ | ⟨h1, e, h2, h3⟩
  case inr =>
    rcases D with ⟨t, d1, d2⟩ | ⟨d1, e', d2, d3⟩
    · rw [h1] at d1; cases d1
    refine no ?_ (fun l => ?_)
    · unfold f94
      rw [a2]
      simp only [Option.bind_eq_bind, Option.bind_some, hw1, hw2]
      rw [if_neg (by simp; omega), if_pos (by omega), hi1, hi2, h3]
      simp only [Option.bind_some]
      rw [if_pos (by simp [h2])]
    · rw [un, b2]
      simp only [Option.bind_eq_bind, Option.bind_some, hw1, hw2]
      rw [if_neg (by simp; omega), if_pos (by omega), hi1, hi2, d3]
      simp only [Option.bind_some]
      rw [if_pos (by simp [d2])]
  rcases D with ⟨t', d1, d2⟩ | ⟨d1, _⟩
  case inr => rw [h1] at d1; cases d1
  rw [h1] at d1
  simp only [Option.some.injEq] at d1
  subst d1
  have ht : t.length ≤ 5000 := by
    have := congrArg List.length (openS_some h1)
    rw [sealS_len] at this; omega
  have e94 : f94 s (p : Int) (m : Int) = (if (decide ((t.length : Int) < ((numV m).length : Int))) = true then some ([], 0, false) else
      if (0 : Int) ≤ ((numV m).length : Int) ∧ ((numV m).length : Int) ≤ (t.length : Int) then
      if ((!((t.take (Int.toNat ((numV m).length : Int))) == numV m)) || (decide ((IntKind.wrap .i64 ((t.length : Int) - ((numV m).length : Int))) > 1024))) = true then some ([], 0, false) else
      if (0 : Int) ≤ ((numV m).length : Int) ∧ ((numV m).length : Int) ≤ (t.length : Int) then some (t.drop (Int.toNat ((numV m).length : Int)), ((p + k + w : Nat) : Int), true) else none else none) := by
    unfold f94
    rw [a2]
    simp only [Option.bind_eq_bind, Option.bind_some, hw1, hw2]
    rw [if_neg (by simp; omega), if_pos (by omega), hi1, hi2, h2]
    simp only [Option.bind_some]
    rw [if_neg (by simp), f90_numV (by omega)]
    simp only [Option.bind_some]
  have e50 : ∀ l, f50_l0 s l (m : Int) (p : Int) = f45 t 0 >>= fun r27 => if (((r27.2.2 != 0) || (r27.1 != (m : Int))) || (decide ((IntKind.wrap .i64 ((t.length : Int) - r27.2.1)) > 1024))) = true then some (.inr (l, (p : Int))) else
      if (0 : Int) ≤ r27.2.1 ∧ r27.2.1 ≤ (t.length : Int) then
      if (l.length + 1) * 16 ≤ 140737488355328 then f50_l0 s (l ++ [t.drop (Int.toNat r27.2.1)]) (IntKind.wrap .i64 ((m : Int) + 1)) ((p + k + w : Nat) : Int) else none else none := by
    intro l
    rw [un, b2]
    simp only [Option.bind_eq_bind, Option.bind_some, hw1, hw2]
    rw [if_neg (by simp; omega), if_pos (by omega), hi1, hi2, d2]
    simp only [Option.bind_some]
    rw [if_neg (by simp)]
  have hiff := rdU_numV (t := t) (n := m) hm (by omega)
  have E := f45_eq (s := t) (p := 0) (by omega) (by omega)
  rw [show (((0 : Nat) : Int)) = (0 : Int) from rfl, List.drop_zero] at E
  have hi3 : Int.toNat ((numV m).length : Int) = (numV m).length := by omega
  have hnl := numV_len (n := m) (by omega)
  by_cases cy : ∃ u k, rdU t 0 = some (u, k) ∧ zz u = (m : Int)
  case neg =>
    have hn := fun h => cy (hiff.2 h)
    refine no ?_ (fun l => ?_)
    · rw [e94]
      by_cases c2 : t.length < (numV m).length
      · rw [if_pos (by simp; omega)]
      · rw [if_neg (by simp; omega), if_pos (by omega), hi3, if_pos]
        have c3 : ¬ t.take (numV m).length = numV m := fun h => hn ⟨by omega, h⟩
        simp [c3]
    · rw [e50]
      rcases E with ⟨u', k', g1, g2⟩ | ⟨g1, e, g2, g3⟩
      · rw [g2]
        simp only [Option.bind_eq_bind, Option.bind_some]
        have c3 : ¬ zz u' = (m : Int) := fun h => cy ⟨u', k', g1, h⟩
        rw [if_pos (by simp [c3])]
      · rw [g3]
        simp only [Option.bind_eq_bind, Option.bind_some]
        rw [if_pos (by simp [g2])]
  obtain ⟨u2, j2, g1, g2⟩ := cy
  have hj := rdU_len hm g1 g2
  obtain ⟨y1, y2⟩ := hiff.1 ⟨u2, j2, g1, g2⟩
  rcases E with ⟨u', k', q1, q2⟩ | ⟨q1, _⟩
  case inr => rw [g1] at q1; cases q1
  rw [g1] at q1
  simp only [Option.some.injEq, Prod.mk.injEq] at q1
  obtain ⟨rfl, rfl⟩ := q1
  rw [g2, hj, Nat.zero_add] at q2
  have hw3 : IntKind.wrap .i64 ((t.length : Int) - ((numV m).length : Int)) = ((t.length - (numV m).length : Nat) : Int) := by rw [wrap_id (by omega) (by omega)]; omega
  by_cases c4 : 1024 < t.length - (numV m).length
  · refine no ?_ (fun l => ?_)
    · rw [e94, if_neg (by simp; omega), if_pos (by omega), hi3, hw3, if_pos (by simp; omega)]
    · rw [e50, q2]
      simp only [Option.bind_eq_bind, Option.bind_some, hw3]
      rw [if_pos (by simp; omega)]
  · refine .inl ⟨t.drop (numV m).length, p + k + w, hq1, hq2, ?_, fun l hl => ?_⟩
    · rw [e94, if_neg (by simp; omega), if_pos (by omega), hi3, hw3, if_neg (by simp [y2]; omega), if_pos (by omega)]
    · rw [e50, q2]
      simp only [Option.bind_eq_bind, Option.bind_some, hw3]
      rw [if_neg (by simp; omega), if_pos (by omega), if_pos (by omega), hi3]

theorem parse_loop {s : List UInt8} (hs : s.length ≤ 5000) {f : Nat} (hf : f ≤ 1099511627776) : ∀ (j p : Nat) (l : List (List UInt8)), s.length - p ≤ j → p ≤ s.length → l.length ≤ p →
    ∃ l' q : _, f49_l0 s (f : Int) l (p : Int) = some (l', q) ∧ f50_l0 s l ((f + l.length : Nat) : Int) (p : Int) = some (.inr (l', q)) ∧ l'.length ≤ 5000
  | j, p, l, hj, hp, hl => by
    have hw : IntKind.wrap .i64 ((f : Int) + (l.length : Int)) = ((f + l.length : Nat) : Int) := by rw [wrap_id (by omega) (by omega)]; omega
    rw [f49_l0, if_pos (by simp), hw]
    rcases parse_step hs (p := p) (m := f + l.length) hp (by omega) with ⟨x, q, h1, h2, h3, h4⟩ | ⟨h1, h2⟩
    · rw [h3, h4 l (by omega)]
      simp only [Option.bind_eq_bind, Option.bind_some]
      rw [if_neg (by simp), if_pos (by omega)]
      have hw2 : IntKind.wrap .i64 (((f + l.length : Nat) : Int) + 1) = ((f + (l ++ [x]).length : Nat) : Int) := by rw [wrap_id (by omega) (by omega)]; simp; omega
      rw [hw2]
      cases j with
      | zero => omega
      | succ j => exact parse_loop hs hf j q (l ++ [x]) (by omega) h2 (by simp; omega)
    · rw [h1, h2 l]
      simp only [Option.bind_eq_bind, Option.bind_some]
      exact ⟨l, (p : Int), by rw [if_pos (by simp)], rfl, by omega⟩

theorem f13_true {s : List UInt8} {p1 : Int} (hp : -9223372036854775808 ≤ p1) (σ : St) : ∃ σ', f13 s p1 σ = some (true, σ') := by
  obtain ⟨σ', e, _⟩ := f48_eq σ
  refine ⟨σ', ?_⟩
  unfold f13
  by_cases c : 5000 < s.length ∨ 1099511627776 < p1
  · rw [if_pos (by simp; omega), e]
    rfl
  rw [if_neg (by simp; omega)]
  have key : ∃ (l : List (List UInt8)) (q : Int), f49 s p1 = some (l, q) ∧ f50 s p1 = some (l, q) ∧ l.length ≤ 5000 := by
    by_cases c0 : p1 < 0
    · refine ⟨[], 0, ?_, ?_, by simp⟩
      · unfold f49
        rw [f49_l0, if_neg (by simp; omega)]; rfl
      · unfold f50
        rw [f50_l0, if_neg (by simp; omega)]; rfl
    · obtain ⟨f, rfl⟩ : ∃ f : Nat, p1 = (f : Int) := ⟨p1.toNat, by omega⟩
      obtain ⟨l, q, h1, h2, h3⟩ := parse_loop (s := s) (by omega) (f := f) (by omega) s.length 0 [] (by omega) (by omega) (by simp)
      rw [show (((0 : Nat) : Int)) = (0 : Int) from rfl] at h1 h2
      refine ⟨l, q, ?_, ?_, h3⟩
      · unfold f49
        rw [h1]; rfl
      · unfold f50
        have h2' : f50_l0 s [] (f : Int) 0 = some (.inr (l, q)) := by simpa using h2
        rw [h2']; rfl
  obtain ⟨l, q, h1, h2, h3⟩ := key
  rw [h1, h2]
  simp only [Option.bind_eq_bind, Option.bind_some]
  rw [e]
  simp only [Option.bind_some]
  simp [f51_eq l (by omega)]
end Go.Proofs.Ytlfemhkabjafeaa.M

/- A law of the log: what its function answers, from what comes in. -/
set_option linter.unusedVariables false
namespace Go.Proofs.Ytlfemhkabjafeaa.M
theorem walParses_pure {x0 : List UInt8} {x1 : Int} (f0 : Kd.str.Fits x0) (f1 : Kd.i.Fits x1) : ∃ σ', f13 x0 x1 St.none = some (true, σ') := f13_true (wf_i64 f1).1 St.none
end Go.Proofs.Ytlfemhkabjafeaa.M
