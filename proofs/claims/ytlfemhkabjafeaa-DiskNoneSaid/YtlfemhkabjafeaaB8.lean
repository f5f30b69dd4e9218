/- Own library, part 8: stores into objects and into the call's own variables; new variables and objects. -/
import Derived.Test.YtlfemhkabjafeaaB7
set_option linter.unusedVariables false
set_option linter.unusedSimpArgs false
namespace Go.Proofs.Ytlfemhkabjafeaa.M

def setK : (k : Kd) → k.den → Nat → (k' : Kd) → k'.den → Option k.den
  | .pair a b, x, o, k', z => if h : k' = .pair a b ∧ o = 0 then some (h.1 ▸ z) else
      (match Nat.blt o a.w with
      | true => (match setK a x.1 o k' z with
        | some y => some (y, x.2)
        | none => none)
      | false => (match setK b x.2 (o - a.w) k' z with
        | some y => some (x.1, y)
        | none => none))
  | .unit, _, _, _, _ => none
  | .int k, _, o, k', z => if h : k' = .int k ∧ o = 0 then some (h.1 ▸ z) else none
  | .bool, _, o, k', z => if h : k' = .bool ∧ o = 0 then some (h.1 ▸ z) else none
  | .str, _, o, k', z => if h : k' = .str ∧ o = 0 then some (h.1 ▸ z) else none
  | .ptr t, _, o, k', z => if h : k' = .ptr t ∧ o = 0 then some (h.1 ▸ z) else none
  | .list k, _, o, k', z => if h : k' = .list k ∧ o = 0 then some (h.1 ▸ z) else none

def setF : (fs : List Fk) → denFs fs → Nat → (k' : Kd) → k'.den → Option (denFs fs)
  | [], _, _, _, _ => none
  | .p k :: r, x, o, k', z => (match Nat.blt o k.w with
    | true => (match setK k x.1 o k' z with
      | some y => some (y, x.2)
      | none => none)
    | false => (match setF r x.2 (o - k.w) k' z with
      | some y => some (x.1, y)
      | none => none))
  | .own _ _ k :: r, x, o, k', z => (match Nat.beq o 0 with
    | true => none
    | false => (match setF r x.2 (o - 1) k' z with
      | some y => some (x.1, y)
      | none => none))
  | .omap _ _ :: r, x, o, k', z => (match Nat.beq o 0 with
    | true => none
    | false => (match setF r x.2 (o - 1) k' z with
      | some y => some (x.1, y)
      | none => none))

def splice (cs ds : List Value) (o : Nat) : List Value := cs.take o ++ ds ++ cs.drop (o + ds.length)

section
variable {P : Program} {w : World} {G : Gh} {T T' : Tabs} {Ls : List LS} {a : Act} {N : Nat} {E : Env} {ops : Array Oper} {Q : Exit → Act → World → Prop}

theorem splice_len {cs ds : List Value} {o : Nat} (h : o + ds.length ≤ cs.length) : (splice cs ds o).length = cs.length := by
  simp [splice]; omega

theorem splice_left {c1 c2 ds : List Value} {o : Nat} (h : o + ds.length ≤ c1.length) : splice (c1 ++ c2) ds o = splice c1 ds o ++ c2 := by
  unfold splice
  rw [List.take_append_of_le_length (by omega), List.drop_append_of_le_length (by omega)]
  simp

theorem splice_right {c1 c2 ds : List Value} {o : Nat} (h : c1.length ≤ o) : splice (c1 ++ c2) ds o = c1 ++ splice c2 ds (o - c1.length) := by
  unfold splice
  rw [List.take_append, List.take_of_length_le h, List.drop_append, List.drop_of_length_le (by omega)]
  simp only [List.nil_append, List.append_assoc]
  rw [show o + ds.length - c1.length = o - c1.length + ds.length by omega]

theorem splice_all {cs ds : List Value} (h : ds.length = cs.length) : splice cs ds 0 = ds := by simp [splice, h]

theorem setK_leaf {k k' : Kd} {z : k'.den} {x' : k.den} {o : Nat} {cs ds : List Value} {x : k.den} (hs : (if h : k' = k ∧ o = 0 then some (h.1 ▸ z) else none) = some x') (hk : Kr G k x cs) (hz : Kr G k' z ds) :
    o + ds.length ≤ cs.length ∧ Kr G k x' (splice cs ds o) := by
  split at hs
  · rename_i h
    obtain ⟨h1, h2⟩ := h
    subst h1; subst h2
    simp only [Option.some.injEq] at hs; subst hs
    have l1 := Kr_len hk
    have l2 := Kr_len hz
    exact ⟨by omega, by rw [splice_all (by omega)]; exact hz⟩
  · simp at hs

theorem setK_ok {k' : Kd} {z : k'.den} {ds : List Value} (hz : Kr G k' z ds) : ∀ {k : Kd} {x x' : k.den} {o : Nat} {cs : List Value}, setK k x o k' z = some x' → Kr G k x cs →
    o + ds.length ≤ cs.length ∧ Kr G k x' (splice cs ds o)
  | .pair a b, x, x', o, cs, hs, hk => by
    unfold setK at hs
    by_cases h : k' = .pair a b ∧ o = 0
    · rw [dif_pos h] at hs
      exact setK_leaf (x := x) (k := .pair a b) (by rw [dif_pos h]; exact hs) hk hz
    · rw [dif_neg h] at hs
      simp only [Kr] at hk
      obtain ⟨c1, c2, rfl, h1, h2⟩ := hk
      have hl := Kr_len h1
      split at hs
      · split at hs
        · rename_i y hy
          simp only [Option.some.injEq] at hs; subst hs
          obtain ⟨k1, k2⟩ := setK_ok hz hy h1
          refine ⟨by simp; omega, ?_⟩
          rw [splice_left k1]
          exact ⟨_, _, rfl, k2, h2⟩
        · simp at hs
      · rename_i hlt
        have hge : a.w ≤ o := by
          rcases Nat.lt_or_ge o a.w with h' | h'
          · have : Nat.blt o a.w = true := Nat.ble_eq_true_of_le h'
            rw [hlt] at this; simp at this
          · exact h'
        split at hs
        · rename_i y hy
          simp only [Option.some.injEq] at hs; subst hs
          obtain ⟨k1, k2⟩ := setK_ok hz hy h2
          refine ⟨by simp; omega, ?_⟩
          rw [splice_right (by omega), hl]
          exact ⟨_, _, rfl, h1, k2⟩
        · simp at hs
  | .unit, x, x', o, cs, hs, hk => by simp [setK] at hs
  | .int k, x, x', o, cs, hs, hk => setK_leaf (x := x) (k := .int k) hs hk hz
  | .bool, x, x', o, cs, hs, hk => setK_leaf (x := x) (k := .bool) hs hk hz
  | .str, x, x', o, cs, hs, hk => setK_leaf (x := x) (k := .str) hs hk hz
  | .ptr t, x, x', o, cs, hs, hk => setK_leaf (x := x) (k := .ptr t) hs hk hz
  | .list k, x, x', o, cs, hs, hk => setK_leaf (x := x) (k := .list k) hs hk hz

theorem setF_ok {k' : Kd} {z : k'.den} {ds : List Value} (hz : Kr G k' z ds) {t i : Nat} : ∀ {fs : List Fk} {x x' : denFs fs} {o f : Nat} {cs : List Value}, setF fs x o k' z = some x' → ObjR w G Ls t i f fs x cs →
    o + ds.length ≤ cs.length ∧ ObjR w G Ls t i f fs x' (splice cs ds o)
  | [], x, x', o, f, cs, hs, hk => by simp [setF] at hs
  | .p k :: fs, x, x', o, f, cs, hs, hk => by
    obtain ⟨c1, c2, rfl, h1, h2⟩ := hk
    have hl : c1.length = k.w := Kr_len h1
    unfold setF at hs
    split at hs
    · split at hs
      · rename_i y hy
        simp only [Option.some.injEq] at hs; subst hs
        obtain ⟨k1, k2⟩ := setK_ok hz hy h1
        refine ⟨by simp; omega, ?_⟩
        rw [splice_left k1]
        exact ⟨_, _, rfl, k2, h2⟩
      · simp at hs
    · rename_i hlt
      have hge : k.w ≤ o := by
        rcases Nat.lt_or_ge o k.w with h' | h'
        · have : Nat.blt o k.w = true := Nat.ble_eq_true_of_le h'
          rw [hlt] at this; simp at this
        · exact h'
      split at hs
      · rename_i y hy
        simp only [Option.some.injEq] at hs; subst hs
        obtain ⟨k1, k2⟩ := setF_ok hz hy h2
        refine ⟨by simp; omega, ?_⟩
        rw [splice_right (by omega), hl]
        exact ⟨_, _, rfl, h1, k2⟩
      · simp at hs
  | .own e bt k :: fs, x, x', o, f, cs, hs, hk => by
    obtain ⟨c1, c2, rfl, h1, h2⟩ := hk
    have hl : c1.length = 1 := FkR_len h1
    unfold setF at hs
    split at hs
    · simp at hs
    · rename_i hb
      have ho := Nat.ne_of_beq_eq_false hb
      split at hs
      · rename_i y hy
        simp only [Option.some.injEq] at hs; subst hs
        obtain ⟨k1, k2⟩ := setF_ok hz hy h2
        refine ⟨by simp; omega, ?_⟩
        rw [splice_right (by omega), hl]
        exact ⟨_, _, rfl, h1, k2⟩
      · simp at hs
  | .omap kk kv :: fs, x, x', o, f, cs, hs, hk => by
    obtain ⟨c1, c2, rfl, h1, h2⟩ := hk
    have hl : c1.length = 1 := FkR_len h1
    unfold setF at hs
    split at hs
    · simp at hs
    · rename_i hb
      have ho := Nat.ne_of_beq_eq_false hb
      split at hs
      · rename_i y hy
        simp only [Option.some.injEq] at hs; subst hs
        obtain ⟨k1, k2⟩ := setF_ok hz hy h2
        refine ⟨by simp; omega, ?_⟩
        rw [splice_right (by omega), hl]
        exact ⟨_, _, rfl, h1, k2⟩
      · simp at hs

theorem Kr_cells1 : ∀ {k : Kd} {x : k.den} {cs : List Value}, Kr G k x cs → ∀ v ∈ cs, v.oneCell' = true
  | .unit, _, _, h => by simp only [Kr] at h; subst h; simp
  | .int _, _, _, h => by simp only [Kr] at h; subst h; simp [Value.oneCell']
  | .bool, _, _, h => by simp only [Kr] at h; subst h; simp [Value.oneCell']
  | .str, _, _, h => by simp only [Kr] at h; subst h; simp [Value.oneCell']
  | .ptr _, _, _, h => by simp only [Kr] at h; obtain ⟨_, rfl, _⟩ := h; simp [Value.oneCell']
  | .list _, _, _, h => by simp only [Kr] at h; obtain ⟨_, _, rfl, _⟩ := h; simp [Value.oneCell']
  | .pair a b, _, _, h => by
    simp only [Kr] at h; obtain ⟨_, _, rfl, h1, h2⟩ := h
    intro v hv
    rcases List.mem_append.1 hv with hv | hv
    · exact Kr_cells1 h1 v hv
    · exact Kr_cells1 h2 v hv

theorem run_storeAt {ty : TypeId} {b off : Nat} {ce : Array Value} {tb : TypeId} {v : Value} {k : Kd} {z : k.den} (h1 : sizeT P ty = some k.w) (hh : w.heap[b]? = some (.cells ce tb (0, 0)))
    (hz : VR G k z v) (hl : off + v.cells.toList.length ≤ ce.size) :
    (Instr.storeAt ty (.pointer (some ⟨b, off, none⟩)) v).run P w = .ok () (w.setRow b (splice ce.toList v.cells.toList off).toArray) := by
  have hk := VR_cells hz
  have hs : v.cells.size = k.w := by have := Kr_len hk; simpa using this
  have hst := run_storeCells_at P b off tb v.cells.toList 0 ce w hh (by simpa using hl) (Kr_cells1 hk)
  simp only [Nat.add_zero] at hst
  simp [Instr.storeAt, Instr.sureAddr, storeVar, run_sizeOf h1, hs, hst, splice]

/-- One block of cells is written anew; its role stays. -/
theorem Holds.row (h : Holds w G T Ls) {b : Nat} {ce ce' : Array Value} {tb : TypeId} (hh : w.heap[b]? = some (.cells ce tb (0, 0))) {L' : List LS}
    (hin : BlockOK (w.setRow b ce') G T' L' b)
    (hr : (∃ t i, G.role b = .obj t i) ∨ G.role b = .loc)
    (hhole : ∀ t i f, holeAt t i f L' = holeAt t i f Ls)
    (hT : ∀ t i tab x, (∀ b', G.role b' = .obj t i → b' ≠ b) → T t = some tab → tab.xs[i]? = some x → ∃ xs', T' t = some ⟨tab.fs, xs'⟩ ∧ xs'[i]? = some x)
    (hloc : ∀ l ∈ L', (l ∈ Ls ∧ l.blk ≠ some b) ∨ LSR (w.setRow b ce') G l) (hnd : (L'.filterMap LS.blk).Nodup)
    (hex : ∀ t tab i, T' t = some tab → i < tab.xs.length → ∃ b, G.role b = .obj t i)
    (hT2 : ∀ t tab, T t = some tab → ∃ tab', T' t = some tab' ∧ tab'.xs.length = tab.xs.length) : Holds (w.setRow b ce') G T' L' := by
  have hsame : ∀ b', b' ≠ b → (w.setRow b ce').heap[b']? = w.heap[b']? := fun b' hb => setRow_other w b b' ce' hb
  refine h.change (fun b' => b' = b) (Gh.le_refl G) ⟨rfl, rfl, rfl⟩ ?_ (fun b' hb => ⟨hsame b' hb, rfl⟩) (fun b' hb => by subst hb; exact hin) ?_ ?_ hnd hex h.inj h.finj (fun b t i f hb => by
    obtain ⟨tab, h1, h2⟩ := h.fex b t i f hb
    obtain ⟨tab', h3, h4⟩ := hT2 t tab h1
    exact ⟨tab', h3, by omega⟩)
  · intro b' hb; simp at hb; exact h.free b' hb
  · intro b' t i hb hr' tab x cs h1 h2 h3
    obtain ⟨xs', k1, k2⟩ := hT t i tab x (fun b2 hb2 => by rw [h.inj b2 b' t i hb2 hr']; exact hb) h1 h2
    refine ⟨⟨tab.fs, xs'⟩, x, k1, k2, ?_⟩
    refine ObjR_keep (Gh.le_refl G) (fun f => hhole t i f) (fun b2 f hb2 => ⟨hsame b2 ?_, rfl⟩) h3
    intro he; subst he
    rcases hr with ⟨t', i', hr⟩ | hr <;> rcases hb2 with hb2 | ⟨p, hb2⟩ <;> rw [hr] at hb2 <;> simp at hb2
  · intro l hl
    rcases hloc l hl with ⟨h1, h2⟩ | h1
    · refine LSR_keep (Gh.le_refl G) (fun b' hb' => ⟨hsame b' (fun he => ?_), rfl⟩) (h.loc l h1)
      subst he; exact h2 hb'
    · exact h1

/-- The tables with one object of table t turned. -/
def UpdT (T T' : Tabs) (t i : Nat) (fs : List Fk) (x' : denFs fs) : Prop := (∃ xs, T t = some ⟨fs, xs⟩ ∧ T' t = some ⟨fs, xs.set i x'⟩) ∧ ∀ t', t' ≠ t → T' t' = T t'

theorem store_obj (h : Holds w G T Ls) {ty t i off : Nat} {u v : Value} {fs : List Fk} {x x' : denFs fs} {k : Kd} {z : k.den} (hu : EnR G (.fldA t i off) u) (hv : EnR G (.kv k z) v)
    (hs : sizeT P ty = some k.w) (ho : ObAt T t i fs x) (hset : setF fs x off k z = some x') (hT : UpdT T T' t i fs x') :
    ∃ w', (Instr.storeAt ty u v).run P w = .ok () w' ∧ Holds w' G T' Ls := by
  obtain ⟨b, hb, rfl⟩ := hu
  obtain ⟨ce, tb, hh, hob⟩ := h.at hb ho
  have hz : Kr G k z v.cells.toList := VR_cells hv
  obtain ⟨k1, k2⟩ := setF_ok (w := w) (Ls := Ls) (t := t) (i := i) hz hset hob
  rw [Array.length_toList] at k1
  refine ⟨_, run_storeAt hs hh hv k1, ?_⟩
  obtain ⟨⟨xs, hT1, hT2⟩, hT3⟩ := hT
  obtain ⟨xs0, ho1, ho2⟩ := ho
  rw [hT1] at ho1
  simp only [Option.some.injEq, Tab.mk.injEq, heq_eq_eq, true_and] at ho1
  subst ho1
  have hlt := (List.getElem?_eq_some_iff.1 ho2).1
  refine h.row hh ?_ (.inl ⟨t, i, hb⟩) (fun _ _ _ => rfl) ?_ (fun l hl => .inl ⟨hl, ?_⟩) h.nd ?_ ?_
  · unfold BlockOK
    rw [hb]
    refine ⟨_, x', (splice ce.toList v.cells.toList off).toArray, tb, hT2, by simp [hlt], setRow_heap w b ce _ tb _ hh, ?_⟩
    refine ObjR_keep (w := w) (Gh.le_refl G) (fun _ => rfl) (fun b2 f hb2 => ⟨setRow_other w b b2 _ ?_, rfl⟩) k2
    intro he; subst he
    rcases hb2 with hb2 | ⟨p, hb2⟩ <;> rw [hb] at hb2 <;> simp at hb2
  · intro t' i' tab y hne h1 h2
    by_cases ht : t' = t
    · subst ht
      rw [hT1] at h1
      simp only [Option.some.injEq] at h1; subst h1
      refine ⟨_, hT2, ?_⟩
      have hi : i ≠ i' := fun hi => by subst hi; exact hne b hb rfl
      simp only at h2
      rw [List.getElem?_set_ne hi]; exact h2
    · exact ⟨tab.xs, by rw [hT3 t' ht]; exact h1, h2⟩
  · intro hbl
    rcases h.loc_role hl hbl with h1 | ⟨p, h1⟩ <;> rw [hb] at h1 <;> simp at h1
  · intro t' tab i' h1 h2
    by_cases ht : t' = t
    · subst ht
      rw [hT2] at h1
      simp only [Option.some.injEq] at h1; subst h1
      exact h.ex _ _ i' hT1 (by simpa using h2)
    · rw [hT3 t' ht] at h1
      exact h.ex t' tab i' h1 h2
  · intro t' tab h1
    by_cases ht : t' = t
    · subst ht
      rw [hT1] at h1
      simp only [Option.some.injEq] at h1; subst h1
      exact ⟨_, hT2, by simp⟩
    · exact ⟨tab, by rw [hT3 t' ht]; exact h1, rfl⟩

theorem nodup_set {L : List LS} {j : Nat} {l l' : LS} (hj : L[j]? = some l) (hb : l'.blk = l.blk) (h : (L.filterMap LS.blk).Nodup) : ((L.set j l').filterMap LS.blk).Nodup := by
  have : (L.set j l').filterMap LS.blk = L.filterMap LS.blk := by
    have hlt := (List.getElem?_eq_some_iff.1 hj).1
    have hl := (List.getElem?_eq_some_iff.1 hj).2
    have e1 : (L.set j l').map LS.blk = L.map LS.blk := by
      rw [List.map_set, hb]
      apply List.ext_getElem?
      intro n
      rw [List.getElem?_set]
      split
      · rename_i hn; subst hn; simp [hlt, hl]
      · rfl
    have e2 : ∀ M : List LS, M.filterMap LS.blk = (M.map LS.blk).filterMap id := by intro M; simp [List.filterMap_map]
    rw [e2, e2, e1]
  rw [this]; exact h

theorem mem_set_other {L : List LS} {j : Nat} {l l' m : LS} {b : Nat} (hj : L[j]? = some l) (hb : l.blk = some b) (h : (L.filterMap LS.blk).Nodup) (hm : m ∈ L.set j l') : m = l' ∨ (m ∈ L ∧ m.blk ≠ some b) := by
  obtain ⟨n, hn⟩ := List.mem_iff_getElem?.1 hm
  rw [List.getElem?_set] at hn
  split at hn
  · rename_i he
    split at hn
    · simp at hn; exact .inl hn.symm
    · simp at hn
  · rename_i hne
    refine .inr ⟨List.mem_of_getElem? hn, fun hmb => ?_⟩
    -- two places of one block
    have key : ∀ (M : List LS) (p q : Nat) (x y : LS), p < q → M[p]? = some x → M[q]? = some y → x.blk = some b → y.blk = some b → ¬ (M.filterMap LS.blk).Nodup := by
      intro M
      induction M with
      | nil => intro p q x y _ hp; simp at hp
      | cons z M ih =>
        intro p q x y hpq hp hq hx hy hnd
        obtain ⟨q', rfl⟩ : ∃ q', q = q' + 1 := ⟨q - 1, by omega⟩
        simp at hq
        cases p with
        | zero =>
          simp at hp; subst hp
          rw [List.filterMap_cons_some hx] at hnd
          have := (List.nodup_cons.1 hnd).1
          exact this (List.mem_filterMap.2 ⟨y, List.mem_of_getElem? hq, hy⟩)
        | succ p =>
          simp at hp
          refine ih p q' x y (by omega) hp hq hx hy ?_
          cases hz : z.blk with
          | none => rwa [List.filterMap_cons_none hz] at hnd
          | some c => rw [List.filterMap_cons_some hz] at hnd; exact (List.nodup_cons.1 hnd).2
    rcases Nat.lt_or_gt_of_ne hne with h1 | h1
    · exact key L j n l m h1 hj hn hb hmb h
    · exact key L n j m l h1 hn hj hmb hb h

theorem holeAt_set {L : List LS} {j : Nat} {l l' : LS} (hj : L[j]? = some l) (h1 : ∀ t i f, holeAt t i f [l] = none) (h2 : ∀ t i f, holeAt t i f [l'] = none) : ∀ t i f, holeAt t i f (L.set j l') = holeAt t i f L := by
  intro t i f
  induction L generalizing j with
  | nil => simp at hj
  | cons z L ih =>
    cases j with
    | zero =>
      simp at hj; subst hj
      simp only [List.set_cons_zero]
      have e : ∀ (q : LS), holeAt t i f [q] = none → holeAt t i f (q :: L) = holeAt t i f L := by
        intro q hq
        cases q with
        | hole t' i' f' v =>
          simp only [holeAt] at hq ⊢
          split at hq
          · simp at hq
          · rename_i hc; rw [if_neg hc]
        | _ => rfl
      rw [e _ (h1 t i f), e _ (h2 t i f)]
    | succ j =>
      simp only [List.set_cons_succ]
      cases z <;> simp only [holeAt]
      all_goals first
        | exact ih (by simpa using hj)
        | (split
           · rfl
           · exact ih (by simpa using hj))

theorem store_box (h : Holds w G T Ls) {ty b off j : Nat} {v : Value} {k : Kd} {x x' : k.den} {k' : Kd} {z : k'.den} (hv : EnR G (.kv k' z) v) (hs : sizeT P ty = some k'.w)
    (hj : Ls[j]? = some (.box b k x)) (hset : setK k x off k' z = some x') :
    ∃ w', (Instr.storeAt ty (.pointer (some ⟨b, off, none⟩)) v).run P w = .ok () w' ∧ Holds w' G T (Ls.set j (.box b k x')) := by
  obtain ⟨hr, ce, tb, hh, hk⟩ := h.loc _ (List.mem_of_getElem? hj)
  have hz : Kr G k' z v.cells.toList := VR_cells hv
  obtain ⟨k1, k2⟩ := setK_ok hz hset hk
  rw [Array.length_toList] at k1
  refine ⟨_, run_storeAt hs hh hv k1, ?_⟩
  refine h.row hh ?_ (.inr hr) (holeAt_set hj (fun _ _ _ => rfl) (fun _ _ _ => rfl)) (fun t i tab x0 _ h1 h2 => ⟨tab.xs, h1, h2⟩) ?_ (nodup_set hj rfl h.nd) h.ex (fun t tab h1 => ⟨tab, h1, rfl⟩)
  · unfold BlockOK; rw [hr]; trivial
  · intro l hl
    rcases mem_set_other hj rfl h.nd hl with rfl | ⟨h1, h2⟩
    · exact .inr ⟨hr, _, tb, setRow_heap w b ce _ tb _ hh, by simpa using k2⟩
    · exact .inl ⟨h1, h2⟩

end
end Go.Proofs.Ytlfemhkabjafeaa.M
