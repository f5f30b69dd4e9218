/- Own library, part 14: maps that are fields of objects: updates, deletes; a new object with an empty map. -/
import Derived.Test.YtlfemhkabjafeaaB13
set_option linter.unusedVariables false
set_option linter.unusedSimpArgs false
namespace Go.Proofs.Ytlfemhkabjafeaa.M

def mapSet (kk kv : Kd) (key : kk.den) (v : kv.den) : List (kk.den × kv.den) → List (kk.den × kv.den)
  | [] => [(key, v)]
  | (k, u) :: r => (match keyEq kk key k with
    | true => (key, v) :: r
    | false => (k, u) :: mapSet kk kv key v r)

def mapDel (kk kv : Kd) (key : kk.den) : List (kk.den × kv.den) → List (kk.den × kv.den)
  | [] => []
  | (k, u) :: r => (match keyEq kk key k with
    | true => r
    | false => (k, u) :: mapDel kk kv key r)

def setM : (fs : List Fk) → denFs fs → Nat → (mp : MP) → Option (denFs fs)
  | [], _, _, _ => none
  | .omap kk kv :: _, x, 0, mp => if h : mp.kk = kk ∧ mp.kv = kv then some (by obtain ⟨k1, k2, m⟩ := mp; exact (h.1 ▸ h.2 ▸ m, x.2)) else none
  | _ :: _, _, 0, _ => none
  | _ :: r, x, f + 1, mp => (match setM r x.2 f mp with
    | some y => some (x.1, y)
    | none => none)

section
variable {P : Program} {w : World} {G : Gh} {T T' : Tabs} {Ls : List LS} {a : Act} {N : Nat} {E : Env} {ops : Array Oper} {Q : Exit → Act → World → Prop}

theorem map_found {kk kv : Kd} {d : TypeDesc} {key : kk.den} {u : Value} (hk : keyOK kk (some d) = true) (hx : VR G kk key u) :
    ∀ {m : List (kk.den × kv.den)} {es : List MapEntry} {i : Nat}, mapL G kk kv m es →
      (∃ j e, Instr.findNow d u es i = some (some (i + j, e.val)) ∧ es[j]? = some e ∧ Instr.sameBits 10000 e.key u = true ∧ mapDel kk kv key m = m.eraseIdx j ∧ ∀ v, mapSet kk kv key v m = m.modify j (fun _ => (key, v))) ∨
      (Instr.findNow d u es i = some none ∧ mapDel kk kv key m = m ∧ ∀ v, mapSet kk kv key v m = m ++ [(key, v)])
  | [], [], i, _ => .inr ⟨rfl, rfl, fun _ => rfl⟩
  | (k, z) :: m, e :: es, i, ⟨⟨h1, h2⟩, h3⟩ => by
    have hs := keyEq_now hk hx h1
    cases hq : keyEq kk key k with
    | true =>
      rw [hq] at hs
      refine .inl ⟨0, e, by simp [Instr.findNow, hs], rfl, ?_, by simp [mapDel, hq], fun v => by simp [mapSet, hq, List.modify_cons]⟩
      rw [show (10000 : Nat) = 9999 + 1 from rfl]
      cases kk <;> cases d <;> simp [keyOK] at hk
      · simp only at h1 hx
        rw [VR_int.1 h1, VR_int.1 hx]
        simp only [keyEq, beq_iff_eq] at hq
        simp [Instr.sameBits, hq]
      · simp only at h1 hx
        rw [VR_bool.1 h1, VR_bool.1 hx]
        simp only [keyEq, beq_iff_eq] at hq
        simp [Instr.sameBits, hq]
      · simp only at h1 hx
        rw [VR_str.1 h1, VR_str.1 hx]
        simp only [keyEq, beq_iff_eq] at hq
        simp only [Instr.sameBits, hq]
        rw [bytes_beq]
        simp
    | false =>
      rw [hq] at hs
      rcases map_found (i := i + 1) hk hx h3 with ⟨j, e', k1, k2, k3, k4, k5⟩ | ⟨k1, k2, k3⟩
      · refine .inl ⟨j + 1, e', ?_, by simpa using k2, k3, by simp [mapDel, hq, k4], fun v => by simp [mapSet, hq, k5 v, List.modify_cons]⟩
        simp only [Instr.findNow, hs]
        rw [k1]
        simp; omega
      · exact .inr ⟨by simp [Instr.findNow, hs, k1], by simp [mapDel, hq, k2], fun v => by simp [mapSet, hq, k3 v]⟩
  | [], _ :: _, _, h => h.elim
  | _ :: _, [], _, h => h.elim

theorem All2_modify {α β : Type} {R : α → β → Prop} {f : α → α} {g : β → β} (hfg : ∀ x y, R x y → R (f x) (g y)) : ∀ {xs : List α} {ys : List β} {j : Nat}, All2 R xs ys → All2 R (xs.modify j f) (ys.modify j g)
  | [], [], j, h => by cases j <;> exact trivial
  | x :: xs, y :: ys, 0, ⟨h1, h2⟩ => by simp only [List.modify_zero_cons]; exact ⟨hfg _ _ h1, h2⟩
  | x :: xs, y :: ys, j + 1, ⟨h1, h2⟩ => by simp only [List.modify_succ_cons]; exact ⟨h1, All2_modify hfg h2⟩
  | [], _ :: _, _, h => h.elim
  | _ :: _, [], _, h => h.elim

theorem All2_erase {α β : Type} {R : α → β → Prop} : ∀ {xs : List α} {ys : List β} {j : Nat}, All2 R xs ys → All2 R (xs.eraseIdx j) (ys.eraseIdx j)
  | [], [], j, h => by cases j <;> exact trivial
  | x :: xs, y :: ys, 0, ⟨h1, h2⟩ => h2
  | x :: xs, y :: ys, j + 1, ⟨h1, h2⟩ => ⟨h1, All2_erase h2⟩
  | [], _ :: _, _, h => h.elim
  | _ :: _, [], _, h => h.elim

def setH (w : World) (r : Nat) (o : Obj) : World := { w with heap := w.heap.setIfInBounds r o }

theorem run_setM {r : Nat} {es : Array MapEntry} {cl : Nat} (hh : w.heap[r]? = some (.map es cl)) (o : Obj) : (setObj r o).run P w = .ok () (setH w r o) := by
  simp [setObj, Sem.run, hh, setH]

theorem run_keep {old new : Value} (h : Instr.sameBits 10000 old new = true) : (Instr.keyThatStays old new).run P w = .ok new w := by
  simp [Instr.keyThatStays, h]

theorem setH_same {r : Nat} {o o' : Obj} (hh : w.heap[r]? = some o) : (setH w r o').heap[r]? = some o' := by
  have := (Array.getElem?_eq_some_iff.1 hh).1
  simp [setH, this]

theorem setH_ne {r b : Nat} {o' : Obj} (h : b ≠ r) : (setH w r o').heap[b]? = w.heap[b]? := by
  simp [setH, Array.getElem?_setIfInBounds_ne (Ne.symm h)]

theorem modify_mem {es : List MapEntry} {j : Nat} {u v : Value} {x : MapEntry} (h : x ∈ es.modify j (fun e => { e with key := u, val := v })) : ∃ y ∈ es, x = y ∨ x = { y with key := u, val := v } := by
  induction es generalizing j with
  | nil => cases j <;> simp at h
  | cons e es ih =>
    cases j with
    | zero =>
      simp only [List.modify_zero_cons, List.mem_cons] at h
      rcases h with h | h
      · exact ⟨e, List.mem_cons_self, .inr h⟩
      · exact ⟨x, List.mem_cons_of_mem _ h, .inl rfl⟩
    | succ j =>
      simp only [List.modify_succ_cons, List.mem_cons] at h
      rcases h with h | h
      · exact ⟨x, by rw [h]; exact List.mem_cons_self, .inl rfl⟩
      · obtain ⟨y, hy, hb⟩ := ih h
        exact ⟨y, List.mem_cons_of_mem _ hy, hb⟩

theorem modify_born {u v : Value} : ∀ {es : List MapEntry} {j : Nat}, (es.modify j (fun e => { e with key := u, val := v })).map (·.born) = es.map (·.born)
  | [], j => by cases j <;> rfl
  | e :: es, 0 => by simp
  | e :: es, j + 1 => by simp only [List.modify_succ_cons, List.map_cons, modify_born]

theorem mapUpdate_run {mt kt et : TypeId} {kk kv : Kd} {key : kk.den} {z : kv.den} {u v : Value} {r cl : Nat} {es : Array MapEntry} {m : List (kk.den × kv.den)} {d : TypeDesc}
    (hty : P.underlying mt = some (.map kt et)) (hd : P.underlying kt = some d) (hk : keyOK kk (some d) = true) (hh : w.heap[r]? = some (.map es cl)) (hm : mapR G kk kv m es.toList cl) (hu : VR G kk key u) (hv : VR G kv z v) :
    ∃ es' cl', (Instr.mapUpdate mt (.map (some r)) u v).run P w = .ok () (setH w r (.map es' cl')) ∧ mapR G kk kv (mapSet kk kv key z m) es'.toList cl' := by
  have hck : ∀ b, (Instr.checkKey b 10000 kt u).run P w = .ok () w := fun b => checkKey_ok hd hk hu
  have hgo : (getObj r).run P w = .ok (.map es cl) w := by simp [getObj, Sem.run, hh]
  rcases map_found (i := 0) hk hu hm.1 with ⟨j, e, k1, k2, k3, k4, k5⟩ | ⟨k1, k2, k3⟩
  · have hf : (Instr.findKey kt u es.toList).run P w = .ok (some (j, e.val)) w := by simp [Instr.findKey, underlying, hd, k1]
    refine ⟨es.modify j (fun e => { e with key := u, val := v }), cl, ?_, ?_⟩
    rotate_left
    · rw [k5 z]
      have he : (es.modify j (fun e => { e with key := u, val := v })).toList = es.toList.modify j (fun e => { e with key := u, val := v }) := by simp
      rw [he]
      refine ⟨?_, ?_, ?_⟩
      rotate_left
      · intro x hx
        obtain ⟨y, hy, hb⟩ := modify_mem hx
        rcases hb with hb | hb
        · rw [hb]; exact hm.2.1 _ hy
        · rw [hb]; exact hm.2.1 y hy
      · rw [modify_born]; exact hm.2.2
      exact All2_modify (R := fun (p : kk.den × kv.den) (e : MapEntry) => VR G kk p.1 e.key ∧ VR G kv p.2 e.val) (f := fun _ => (key, z)) (g := fun e => { e with key := u, val := v }) (j := j) (fun x y _ => ⟨hu, hv⟩) hm.1
    · have k2' : es[j]? = some e := by simpa using k2
      unfold Instr.mapUpdate
      rw [run_und hty]
      simp [hgo, hck, hf, k2', run_keep k3, run_setM hh]
  · have hf : (Instr.findKey kt u es.toList).run P w = .ok none w := by simp [Instr.findKey, underlying, hd, k1]
    refine ⟨es.push { key := u, val := v, born := cl }, cl + 1, ?_, ?_⟩
    rotate_left
    · rw [k3 z]
      have he : (es.push { key := u, val := v, born := cl }).toList = es.toList ++ [{ key := u, val := v, born := cl }] := by simp
      rw [he]
      refine ⟨?_, ?_, ?_⟩
      rotate_left
      · intro x hx
        rcases List.mem_append.1 hx with hx | hx
        · exact Nat.lt_succ_of_lt (hm.2.1 _ hx)
        · simp only [List.mem_singleton] at hx; subst hx; exact Nat.lt_succ_self _
      · rw [List.map_append, List.nodup_append]
        refine ⟨hm.2.2, by simp, fun x hx y hy => ?_⟩
        obtain ⟨z, hz, rfl⟩ := List.mem_map.1 hx
        simp only [List.map_cons, List.map_nil, List.mem_singleton] at hy
        subst hy
        exact Nat.ne_of_lt (hm.2.1 _ hz)
      exact All2_app hm.1 (show All2 (fun (p : kk.den × kv.den) (e : MapEntry) => VR G kk p.1 e.key ∧ VR G kv p.2 e.val) [(key, z)] [{ key := u, val := v, born := cl }] from ⟨⟨hu, hv⟩, trivial⟩)
    · unfold Instr.mapUpdate
      rw [run_und hty]
      simp [hgo, hck, hf, run_setM hh]

theorem mapDelete_run {mt kt et rt : TypeId} {kk kv : Kd} {key : kk.den} {u : Value} {r cl : Nat} {es : Array MapEntry} {m : List (kk.den × kv.den)} {d : TypeDesc} {ts : Array TypeId} (ht : ts[0]? = some mt)
    (hty : P.underlying mt = some (.map kt et)) (hd : P.underlying kt = some d) (hk : keyOK kk (some d) = true) (hh : w.heap[r]? = some (.map es cl)) (hm : mapR G kk kv m es.toList cl) (hu : VR G kk key u) :
    ∃ es' cl', (Builtin.delete_ ts rt #[.map (some r), u]).run P w = .ok (.tuple #[]) (setH w r (.map es' cl')) ∧ mapR G kk kv (mapDel kk kv key m) es'.toList cl' := by
  have hck : ∀ b, (Instr.checkKey b 10000 kt u).run P w = .ok () w := fun b => checkKey_ok hd hk hu
  have hgo : (getObj r).run P w = .ok (.map es cl) w := by simp [getObj, Sem.run, hh]
  rcases map_found (i := 0) hk hu hm.1 with ⟨j, e, k1, k2, k3, k4, k5⟩ | ⟨k1, k2, k3⟩
  · have hf : (Instr.findKey kt u es.toList).run P w = .ok (some (j, e.val)) w := by simp [Instr.findKey, underlying, hd, k1]
    refine ⟨es.eraseIdxIfInBounds j, cl, ?_, ?_⟩
    · unfold Builtin.delete_
      simp only [ht, List.getElem?_toArray, List.getElem?_cons_zero, List.getElem?_cons_succ]
      simp [run_und hty, hgo, hck, hf, run_setM hh]
    · rw [k4]
      have he : (es.eraseIdxIfInBounds j).toList = es.toList.eraseIdx j := Array.toList_eraseIdxIfInBounds ..
      rw [he]
      refine ⟨All2_erase (j := j) hm.1, fun x hx => hm.2.1 _ (List.mem_of_mem_eraseIdx hx), ?_⟩
      exact List.Sublist.nodup (List.Sublist.map _ (List.eraseIdx_sublist ..)) hm.2.2
  · have hf : (Instr.findKey kt u es.toList).run P w = .ok none w := by simp [Instr.findKey, underlying, hd, k1]
    refine ⟨es, cl, ?_, by rw [k2]; exact hm⟩
    unfold Builtin.delete_
    simp only [ht, List.getElem?_toArray, List.getElem?_cons_zero, List.getElem?_cons_succ]
    simp [run_und hty, hgo, hck, hf, run_setM hh]

theorem ObjR_setM {w' : World} {t i r : Nat} {es' : Array MapEntry} {cl' : Nat} {mp : MP} (hr2 : ∀ b, b ≠ r → w'.heap[b]? = w.heap[b]?) (hw : w'.heap[r]? = some (.map es' cl')) (hm : mapR G mp.kk mp.kv mp.m es'.toList cl')
    (hfi : ∀ b b' t i f, G.role b = .fld t i f → G.role b' = .fld t i f → b = b') :
    ∀ {fs : List Fk} {x x' : denFs fs} {f g : Nat} {cs : List Value}, G.role r = .fld t i (g + f) → setM fs x f mp = some x' → ObjR w G Ls t i g fs x cs → ObjR w' G Ls t i g fs x' cs
  | [], _, _, _, _, _, _, h, _ => by simp [setM] at h
  | .p k :: fs, x, x', 0, g, cs, hr, h, ho => by simp [setM] at h
  | .own e bt k :: fs, x, x', 0, g, cs, hr, h, ho => by simp [setM] at h
  | .omap kk kv :: fs, x, x', 0, g, cs, hr, h, ho => by
    unfold setM at h
    split at h
    · rename_i hkk
      obtain ⟨k1, k2, m⟩ := mp
      obtain ⟨h1, h2⟩ := hkk
      simp only at h1 h2
      subst h1; subst h2
      simp only [Option.some.injEq] at h; subst h
      obtain ⟨c1, c2, rfl, ⟨r', es, cl, rfl, k1, k2, k3⟩, hrest⟩ := ho
      have : r' = r := hfi _ _ _ _ _ k1 (by simpa using hr)
      subst this
      refine ⟨_, c2, rfl, ⟨_, es', cl', rfl, k1, hw, hm⟩, ?_⟩
      refine ObjR_keep' (r := r') hr2 ?_ hrest
      intro f p hf
      rw [k1]
      exact ⟨by simp; omega, by simp⟩
    · simp at h
  | fk :: fs, x, x', f + 1, g, cs, hr, h, ho => by
    have h' : ∃ y, setM fs x.2 f mp = some y ∧ x' = (x.1, y) := by
      cases fk <;> (unfold setM at h; split at h <;> simp_all)
    obtain ⟨y, hy, rfl⟩ := h'
    obtain ⟨c1, c2, rfl, h1, h2⟩ := ho
    refine ⟨c1, c2, rfl, ?_, ObjR_setM hr2 hw hm hfi (by rw [hr]; congr 1; omega) hy h2⟩
    refine FkR_keep (Gh.le_refl G) (fun b hb => ⟨hr2 b ?_, rfl⟩) h1
    intro he; subst he
    rcases hb with hb | ⟨p, hb⟩ <;> rw [hr] at hb <;> simp at hb
  where
  ObjR_keep' {w' : World} {t i r : Nat} (hr2 : ∀ b, b ≠ r → w'.heap[b]? = w.heap[b]?) : ∀ {fs : List Fk} {x : denFs fs} {g : Nat} {cs : List Value},
      (∀ f p, g < f + 1 + 0 ∧ g ≤ f → G.role r ≠ .fld t i f ∧ G.role r ≠ .grow (.fld t i f) p) → ObjR w G Ls t i g fs x cs → ObjR w' G Ls t i g fs x cs
    | [], _, _, _, _, h => h
    | fk :: fs, x, g, cs, hne, ⟨c1, c2, hc, h1, h2⟩ => by
      refine ⟨c1, c2, hc, ?_, ObjR_keep' hr2 (fun f p hf => hne f p (by omega)) h2⟩
      refine FkR_keep (Gh.le_refl G) (fun b hb => ⟨hr2 b ?_, rfl⟩) h1
      intro he; subst he
      rcases hb with hb | ⟨p, hb⟩
      · exact (hne g [] (by omega)).1 hb
      · exact (hne g p (by omega)).2 hb

/-- The map in an object's field has turned. -/
theorem Holds.mapTurn (h : Holds w G T Ls) {t i f r cl : Nat} {fs : List Fk} {x x' : denFs fs} {mp : MP} {es : Array MapEntry} {o0 : Obj} (hr : G.role r = .fld t i f) (ho : ObAt T t i fs x) (hs : setM fs x f mp = some x') (hT : UpdT T T' t i fs x')
    (hh : w.heap[r]? = some o0) (hm : mapR G mp.kk mp.kv mp.m es.toList cl) : Holds (setH w r (.map es cl)) G T' Ls := by
  obtain ⟨⟨xs, hT1, hT2⟩, hT3⟩ := hT
  obtain ⟨xs0, ho1, ho2⟩ := ho
  rw [hT1] at ho1
  simp only [Option.some.injEq, Tab.mk.injEq, heq_eq_eq, true_and] at ho1
  subst ho1
  have hlt := (List.getElem?_eq_some_iff.1 ho2).1
  refine h.change (fun b => b = r) (Gh.le_refl G) ⟨rfl, rfl, rfl⟩ ?_ (fun b hb => ⟨setH_ne hb, rfl⟩) (fun b hb => by subst hb; unfold BlockOK; rw [hr]; trivial) ?_ ?_ h.nd ?_ h.inj h.finj ?_
  · intro b hb; simp [setH] at hb; exact h.free b hb
  · intro b t' i' hb hb' tab y cs k1 k2 k3
    by_cases hti : t' = t ∧ i' = i
    · obtain ⟨rfl, rfl⟩ := hti
      rw [hT1] at k1
      simp only [Option.some.injEq] at k1; subst k1
      simp only at k2
      rw [ho2] at k2
      simp only [Option.some.injEq] at k2; subst k2
      refine ⟨_, x', hT2, by simp [hlt], ?_⟩
      exact ObjR_setM (r := r) (fun b hb => setH_ne hb) (setH_same hh) hm h.finj (by simpa using hr) hs k3
    · have hk : ObjR (setH w r (.map es cl)) G Ls t' i' 0 tab.fs y cs := by
        refine ObjR_keep (w := w) (Gh.le_refl G) (fun _ => rfl) (fun b2 f2 hb2 => ⟨setH_ne ?_, rfl⟩) k3
        intro he; subst he
        rcases hb2 with hb2 | ⟨p, hb2⟩ <;> rw [hr] at hb2 <;> simp at hb2
        exact hti ⟨hb2.1.symm, hb2.2.1.symm⟩
      by_cases ht : t' = t
      · subst ht
        rw [hT1] at k1
        simp only [Option.some.injEq] at k1; subst k1
        refine ⟨⟨fs, xs.set i x'⟩, y, hT2, ?_, hk⟩
        simp only at k2 ⊢
        rw [List.getElem?_set_ne (fun hi => hti ⟨rfl, hi.symm⟩)]; exact k2
      · exact ⟨tab, y, by rw [hT3 t' ht]; exact k1, k2, hk⟩
  · intro l hl
    refine LSR_keep (w := w) (Gh.le_refl G) (fun b hb => ⟨setH_ne ?_, rfl⟩) (h.loc l hl)
    intro he; subst he
    rcases h.loc_role hl hb with h1 | ⟨p, h1⟩ <;> rw [hr] at h1 <;> simp at h1
  · intro t' tab i' h1 h2
    by_cases ht : t' = t
    · subst ht
      rw [hT2] at h1
      simp only [Option.some.injEq] at h1; subst h1
      exact h.ex _ _ i' hT1 (by simpa using h2)
    · rw [hT3 t' ht] at h1
      exact h.ex t' tab i' h1 h2
  · intro b t' i' f' hb
    obtain ⟨tab, h1, h2⟩ := h.fex b t' i' f' hb
    by_cases ht : t' = t
    · subst ht
      rw [hT1] at h1
      simp only [Option.some.injEq] at h1; subst h1
      exact ⟨_, hT2, by simpa using h2⟩
    · exact ⟨tab, by rw [hT3 t' ht]; exact h1, h2⟩

theorem fm_at (h : Holds w G T Ls) {t i f : Nat} {fs : List Fk} {x : denFs fs} {mp : MP} {v : Value} (hv : EnR G (.fm t i f) v) (ho : ObAt T t i fs x) (hm : mapO fs x f = some mp) :
    ∃ r es cl, v = .map (some r) ∧ G.role r = .fld t i f ∧ w.heap[r]? = some (.map es cl) ∧ mapR G mp.kk mp.kv mp.m es.toList cl := by
  obtain ⟨r, rfl, hr⟩ := hv
  obtain ⟨xs, h1, h2⟩ := ho
  obtain ⟨b, hb⟩ := h.ex t _ i h1 (List.getElem?_eq_some_iff.1 h2).1
  obtain ⟨ce, ty, hh, hob⟩ := h.at hb ⟨xs, h1, h2⟩
  obtain ⟨r', es, cl, k1, k2, k3⟩ := mapO_ok hm hob
  rw [Nat.zero_add] at k1
  have := h.finj r r' t i f hr k1
  subst this
  exact ⟨r, es, cl, rfl, hr, k2, k3⟩

/-- An update of a map: which, key, value. -/
def mupE (P : Program) (ops : Array Oper) (E : Env) (i : Nat) (kk kv : Kd) : Option (En × kk.den × kv.den) :=
  match ops[i]? with
  | some o => (match goes ops (look E []) o, o.dst, o.op with
    | true, none, .mapUpdate mt m k x => (match P.underlying mt with
      | some (.map kt et) => (match keyOK kk (P.underlying kt) with
        | true => (match opnd (look E []) [] m, opnd (look E []) [] k, opnd (look E []) [] x with
          | some em, some ek, some ex => (match coeK kk ek, coeK kv ex with
            | some key, some z => some (em, key, z)
            | _, _ => none)
          | _, _, _ => none)
        | false => none)
      | _ => none)
    | _, _, _ => none)
  | none => none

theorem stepMUp (kk kv : Kd) (key : kk.den) (z : kv.den) {t j f : Nat} {m : List (kk.den × kv.den)} {fs : List Fk} {x x' : denFs fs} {i : Nat} (hE : EnvR G N a E) (hH : Holds w G T Ls) (hb : mupE P ops E i kk kv = some (.fm t j f, key, z))
    (ho : ObAt T t j fs x) (hm : mapO fs x f = some ⟨kk, kv, m⟩) (hset : setM fs x f ⟨kk, kv, mapSet kk kv key z m⟩ = some x') (hT : UpdT T T' t j fs x')
    (k : ∀ w' G', G.le G' → EnvR G' N a E → Holds w' G' T' Ls → wpFrom P ops Q (i + 1) a w') : wpFrom P ops Q i a w := by
  unfold mupE at hb
  split at hb
  · rename_i o hop
    split at hb
    · rename_i mt m0 k0 x0 hg hdst hop'
      split at hb
      · rename_i kt et hty
        split at hb
        · rename_i hk
          split at hb
          · rename_i em ek ex hem hek hex
            split at hb
            · rename_i key' z' hkey hz
              simp only [Option.some.injEq, Prod.mk.injEq] at hb
              obtain ⟨rfl, rfl, rfl⟩ := hb
              have v1 := opnd_ok (CurR_start hE) (by simp) hem
              have v2 := coeK_ok hkey (opnd_ok (CurR_start hE) (by simp) hek)
              have v3 := coeK_ok hz (opnd_ok (CurR_start hE) (by simp) hex)
              obtain ⟨r, es, cl, hv, hr, hh, hmm⟩ := fm_at hH v1 ho hm
              cases hd : P.underlying kt with
              | none => rw [hd] at hk; cases kk <;> simp [keyOK] at hk
              | some d =>
                rw [hd] at hk
                obtain ⟨es', cl', hrun, hm'⟩ := mapUpdate_run (P := P) hty hd hk hh hmm v2 v3
                refine stepS (G := G) hop hg hdst hE ⟨setH w r (.map es' cl'), G, ?_, Gh.le_refl G, hH.mapTurn hr ho hset hT hh hm'⟩ k
                simp only [execOp, hop', hv]; exact run_unit hrun
            · simp at hb
          · simp at hb
        · simp at hb
      · simp at hb
    · simp at hb
  · simp at hb

/-- A delete: which, key. -/
def mdelE (P : Program) (ops : Array Oper) (E : Env) (i : Nat) (kk : Kd) : Option (En × kk.den × Option Nat) :=
  match ops[i]? with
  | some o => (match goes ops (look E []) o, o.op with
    | true, .call c => (match c.callee, c.args.toList, c.argTypes.toList with
      | .builtin .delete, [m, k], mt :: _ => (match P.underlying mt with
        | some (.map kt et) => (match keyOK kk (P.underlying kt) with
          | true => (match opnd (look E []) [] m, opnd (look E []) [] k with
            | some em, some ek => (match coeK kk ek with
              | some key => some (em, key, o.dst)
              | none => none)
            | _, _ => none)
          | false => none)
        | _ => none)
      | _, _, _ => none)
    | _, _ => none)
  | none => none

theorem stepMDel (kk kv : Kd) (key : kk.den) {t j f : Nat} {d : Option Nat} {m : List (kk.den × kv.den)} {fs : List Fk} {x x' : denFs fs} {i : Nat} (hE : EnvR G N a E) (hH : Holds w G T Ls) (hb : mdelE P ops E i kk = some (.fm t j f, key, d)) (hd : dstOK d N = true)
    (ho : ObAt T t j fs x) (hm : mapO fs x f = some ⟨kk, kv, m⟩) (hset : setM fs x f ⟨kk, kv, mapDel kk kv key m⟩ = some x') (hT : UpdT T T' t j fs x')
    (k : ∀ a' w' G', G.le G' → EnvR G' N a' (putE d (.tup []) E) → Holds w' G' T' Ls → wpFrom P ops Q (i + 1) a' w') : wpFrom P ops Q i a w := by
  unfold mdelE at hb
  split at hb
  · rename_i o hop
    split at hb
    · rename_i c hg hop'
      split at hb
      · rename_i m0 k0 mt ts hcal hargs hts
        split at hb
        · rename_i kt et hty
          split at hb
          · rename_i hk
            split at hb
            · rename_i em ek hem hek
              split at hb
              · rename_i key' hkey
                simp only [Option.some.injEq, Prod.mk.injEq] at hb
                obtain ⟨rfl, rfl, rfl⟩ := hb
                have v1 := opnd_ok (CurR_start hE) (by simp) hem
                have v2 := coeK_ok hkey (opnd_ok (CurR_start hE) (by simp) hek)
                obtain ⟨r, es, cl, hv, hr, hh, hmm⟩ := fm_at hH v1 ho hm
                cases hdd : P.underlying kt with
                | none => rw [hdd] at hk; cases kk <;> simp [keyOK] at hk
                | some dd =>
                  rw [hdd] at hk
                  have ht0 : c.argTypes[0]? = some mt := by
                    rw [← Array.getElem?_toList, hts]; rfl
                  obtain ⟨es', cl', hrun, hm'⟩ := mapDelete_run (P := P) (rt := o.type) ht0 hty hdd hk hh hmm v2
                  refine wpFrom_value hop (goes_ok (CurR_start hE) hg) (v := .tuple #[]) (w' := setH w r (.map es' cl')) ?_ (k _ _ G (Gh.le_refl G) (hE.putO hd ⟨#[], rfl, trivial⟩) (hH.mapTurn hr ho hset hT hh hm'))
                  have hargs' : c.args = #[m0, k0] := by apply Array.ext'; simpa using hargs
                  simp only [execOp, hop', resolve, hcal, invoke, builtin, hargs', List.map_toArray, List.map_cons, List.map_nil, hv, Sem.run_bind, Sem.run_pure, Result.andThen_ok, hrun]
              · simp at hb
            · simp at hb
          · simp at hb
        · simp at hb
      · simp at hb
    · simp at hb
  · simp at hb
end
end Go.Proofs.Ytlfemhkabjafeaa.M
