/- Own texts, laid together: B14 B15 B16 B17 B18 B19 B20 B21 B22 B23 B24 B25 B26 B27 B28 B29 B30 B31 B32 B33 D0 D1 D2 D3 D4 D5. -/
import Derived.Laws.IdiomStrings
import Derived.Laws.StructEq
import Derived.Scope
import Derived.Sort.OwnSorted
import Derived.Sort.OwnSortedInts
import Derived.Test.YtbnmhjobnepajaaGreatZ1
set_option linter.unusedVariables false
set_option linter.unusedSimpArgs false
namespace Go.Proofs.YtbnmhjobnepajaaGreat.M

def nJ (kk kv : Kd) (key : kk.den) (v : kv.den) : List (kk.den × kv.den) → List (kk.den × kv.den)
  | [] => [(key, v)]
  | (k, u) :: r => (match tZ kk key k with
    | true => (key, v) :: r
    | false => (k, u) :: nJ kk kv key v r)

def xw (kk kv : Kd) (key : kk.den) : List (kk.den × kv.den) → List (kk.den × kv.den)
  | [] => []
  | (k, u) :: r => (match tZ kk key k with
    | true => r
    | false => (k, u) :: xw kk kv key r)

def Lm : (fs : List Fk) → az fs → Nat → (mp : MP) → Option (az fs)
  | [], _, _, _ => none
  | .omap kk kv :: _, x, 0, mp => if h : mp.kk = kk ∧ mp.kv = kv then some (by obtain ⟨k1, k2, m⟩ := mp; exact (h.1 ▸ h.2 ▸ m, x.2)) else none
  | _ :: _, _, 0, _ => none
  | _ :: r, x, f + 1, mp => (match Lm r x.2 f mp with
    | some y => some (x.1, y)
    | none => none)

section
variable {P : Program} {w : World} {G : Gh} {T T' : Tabs} {Ls : List LS} {a : Act} {N : Nat} {E : Env} {ops : Array Oper} {Q : Exit → Act → World → Prop}

theorem GX {kk kv : Kd} {d : TypeDesc} {key : kk.den} {u : Value} (hk : pO kk (some d) = true) (hx : VR G kk key u) :
    ∀ {m : List (kk.den × kv.den)} {es : List MapEntry} {i : Nat}, TL G kk kv m es →
      (∃ j e, Instr.findNow d u es i = some (some (i + j, e.val)) ∧ es[j]? = some e ∧ Instr.sameBits 10000 e.key u = true ∧ xw kk kv key m = m.eraseIdx j ∧ ∀ v, nJ kk kv key v m = m.modify j (fun _ => (key, v))) ∨
      (Instr.findNow d u es i = some none ∧ xw kk kv key m = m ∧ ∀ v, nJ kk kv key v m = m ++ [(key, v)])
  | [], [], i, _ => .inr ⟨rfl, rfl, fun _ => rfl⟩
  | (k, z) :: m, e :: es, i, ⟨⟨h1, h2⟩, h3⟩ => by
    have hs := GR hk hx h1
    cases hq : tZ kk key k with
    | true =>
      rw [hq] at hs
      refine .inl ⟨0, e, by simp [Instr.findNow, hs], rfl, ?_, by simp [xw, hq], fun v => by simp [nJ, hq, List.modify_cons]⟩
      rw [show (10000 : Nat) = 9999 + 1 from rfl]
      cases kk <;> cases d <;> simp [pO] at hk
      · simp only at h1 hx
        rw [Az.1 h1, Az.1 hx]
        simp only [tZ, beq_iff_eq] at hq
        simp [Instr.sameBits, hq]
      · simp only at h1 hx
        rw [qw.1 h1, qw.1 hx]
        simp only [tZ, beq_iff_eq] at hq
        simp [Instr.sameBits, hq]
      · simp only at h1 hx
        rw [AA.1 h1, AA.1 hx]
        simp only [tZ, beq_iff_eq] at hq
        simp only [Instr.sameBits, hq]
        rw [bytes_beq]
        simp
    | false =>
      rw [hq] at hs
      rcases GX (i := i + 1) hk hx h3 with ⟨j, e', k1, k2, k3, k4, k5⟩ | ⟨k1, k2, k3⟩
      · refine .inl ⟨j + 1, e', ?_, by simpa using k2, k3, by simp [xw, hq, k4], fun v => by simp [nJ, hq, k5 v, List.modify_cons]⟩
        simp only [Instr.findNow, hs]
        rw [k1]
        simp; omega
      · exact .inr ⟨by simp [Instr.findNow, hs, k1], by simp [xw, hq, k2], fun v => by simp [nJ, hq, k3 v]⟩
  | [], _ :: _, _, h => h.elim
  | _ :: _, [], _, h => h.elim

theorem Ht {α β : Type} {R : α → β → Prop} {f : α → α} {g : β → β} (hfg : ∀ x y, R x y → R (f x) (g y)) : ∀ {xs : List α} {ys : List β} {j : Nat}, cO R xs ys → cO R (xs.modify j f) (ys.modify j g)
  | [], [], j, h => by cases j <;> exact trivial
  | x :: xs, y :: ys, 0, ⟨h1, h2⟩ => by simp only [List.modify_zero_cons]; exact ⟨hfg _ _ h1, h2⟩
  | x :: xs, y :: ys, j + 1, ⟨h1, h2⟩ => by simp only [List.modify_succ_cons]; exact ⟨h1, Ht hfg h2⟩
  | [], _ :: _, _, h => h.elim
  | _ :: _, [], _, h => h.elim

theorem Jc {α β : Type} {R : α → β → Prop} : ∀ {xs : List α} {ys : List β} {j : Nat}, cO R xs ys → cO R (xs.eraseIdx j) (ys.eraseIdx j)
  | [], [], j, h => by cases j <;> exact trivial
  | x :: xs, y :: ys, 0, ⟨h1, h2⟩ => h2
  | x :: xs, y :: ys, j + 1, ⟨h1, h2⟩ => ⟨h1, Jc h2⟩
  | [], _ :: _, _, h => h.elim
  | _ :: _, [], _, h => h.elim

def setH (w : World) (r : Nat) (o : Obj) : World := { w with heap := w.heap.setIfInBounds r o }

theorem F6 {r : Nat} {es : Array MapEntry} {cl : Nat} (hh : w.heap[r]? = some (.map es cl)) (o : Obj) : (setObj r o).run P w = .ok () (setH w r o) := by
  simp [setObj, Sem.run, hh, setH]

theorem Ze {old new : Value} (h : Instr.sameBits 10000 old new = true) : (Instr.keyThatStays old new).run P w = .ok new w := by
  simp [Instr.keyThatStays, h]

theorem Hm {r : Nat} {o o' : Obj} (hh : w.heap[r]? = some o) : (setH w r o').heap[r]? = some o' := by
  have := (Array.getElem?_eq_some_iff.1 hh).1
  simp [setH, this]

theorem tJ {r b : Nat} {o' : Obj} (h : b ≠ r) : (setH w r o').heap[b]? = w.heap[b]? := by
  simp [setH, Array.getElem?_setIfInBounds_ne (Ne.symm h)]

theorem TM {es : List MapEntry} {j : Nat} {u v : Value} {x : MapEntry} (h : x ∈ es.modify j (fun e => { e with key := u, val := v })) : ∃ y ∈ es, x = y ∨ x = { y with key := u, val := v } := by
  induction es generalizing j with
  | nil => cases j <;> simp at h
  | cons e es ih =>
    cases j with
    | zero =>
      simp only [List.modify_zero_cons, List.mem_cons] at h
      rcases h with h | h
      · exact ⟨e, List.mem_cons_self, .inr h⟩
      · exact ⟨x, List.mem_cons_of_mem _ h, .inl rfl⟩
    | succ j =>
      simp only [List.modify_succ_cons, List.mem_cons] at h
      rcases h with h | h
      · exact ⟨x, by rw [h]; exact List.mem_cons_self, .inl rfl⟩
      · obtain ⟨y, hy, hb⟩ := ih h
        exact ⟨y, List.mem_cons_of_mem _ hy, hb⟩

theorem Ic {u v : Value} : ∀ {es : List MapEntry} {j : Nat}, (es.modify j (fun e => { e with key := u, val := v })).map (·.born) = es.map (·.born)
  | [], j => by cases j <;> rfl
  | e :: es, 0 => by simp
  | e :: es, j + 1 => by simp only [List.modify_succ_cons, List.map_cons, Ic]

theorem DR {mt kt et : TypeId} {kk kv : Kd} {key : kk.den} {z : kv.den} {u v : Value} {r cl : Nat} {es : Array MapEntry} {m : List (kk.den × kv.den)} {d : TypeDesc}
    (hty : P.underlying mt = some (.map kt et)) (hd : P.underlying kt = some d) (hk : pO kk (some d) = true) (hh : w.heap[r]? = some (.map es cl)) (hm : yz G kk kv m es.toList cl) (hu : VR G kk key u) (hv : VR G kv z v) :
    ∃ es' cl', (Instr.mapUpdate mt (.map (some r)) u v).run P w = .ok () (setH w r (.map es' cl')) ∧ yz G kk kv (nJ kk kv key z m) es'.toList cl' := by
  have hck : ∀ b, (Instr.checkKey b 10000 kt u).run P w = .ok () w := fun b => AV hd hk hu
  have hgo : (getObj r).run P w = .ok (.map es cl) w := by simp [getObj, Sem.run, hh]
  rcases GX (i := 0) hk hu hm.1 with ⟨j, e, k1, k2, k3, k4, k5⟩ | ⟨k1, k2, k3⟩
  · have hf : (Instr.findKey kt u es.toList).run P w = .ok (some (j, e.val)) w := by simp [Instr.findKey, underlying, hd, k1]
    refine ⟨es.modify j (fun e => { e with key := u, val := v }), cl, ?_, ?_⟩
    rotate_left
    · rw [k5 z]
      have he : (es.modify j (fun e => { e with key := u, val := v })).toList = es.toList.modify j (fun e => { e with key := u, val := v }) := by simp
      rw [he]
      refine ⟨?_, ?_, ?_⟩
      rotate_left
      · intro x hx
        obtain ⟨y, hy, hb⟩ := TM hx
        rcases hb with hb | hb
        · rw [hb]; exact hm.2.1 _ hy
        · rw [hb]; exact hm.2.1 y hy
      · rw [Ic]; exact hm.2.2
      exact Ht (R := fun (p : kk.den × kv.den) (e : MapEntry) => VR G kk p.1 e.key ∧ VR G kv p.2 e.val) (f := fun _ => (key, z)) (g := fun e => { e with key := u, val := v }) (j := j) (fun x y _ => ⟨hu, hv⟩) hm.1
    · have k2' : es[j]? = some e := by simpa using k2
      unfold Instr.mapUpdate
      rw [bM hty]
      simp [hgo, hck, hf, k2', Ze k3, F6 hh]
  · have hf : (Instr.findKey kt u es.toList).run P w = .ok none w := by simp [Instr.findKey, underlying, hd, k1]
    refine ⟨es.push { key := u, val := v, born := cl }, cl + 1, ?_, ?_⟩
    rotate_left
    · rw [k3 z]
      have he : (es.push { key := u, val := v, born := cl }).toList = es.toList ++ [{ key := u, val := v, born := cl }] := by simp
      rw [he]
      refine ⟨?_, ?_, ?_⟩
      rotate_left
      · intro x hx
        rcases List.mem_append.1 hx with hx | hx
        · exact Nat.lt_succ_of_lt (hm.2.1 _ hx)
        · simp only [List.mem_singleton] at hx; subst hx; exact Nat.lt_succ_self _
      · rw [List.map_append, List.nodup_append]
        refine ⟨hm.2.2, by simp, fun x hx y hy => ?_⟩
        obtain ⟨z, hz, rfl⟩ := List.mem_map.1 hx
        simp only [List.map_cons, List.map_nil, List.mem_singleton] at hy
        subst hy
        exact Nat.ne_of_lt (hm.2.1 _ hz)
      exact Jb hm.1 (show cO (fun (p : kk.den × kv.den) (e : MapEntry) => VR G kk p.1 e.key ∧ VR G kv p.2 e.val) [(key, z)] [{ key := u, val := v, born := cl }] from ⟨⟨hu, hv⟩, trivial⟩)
    · unfold Instr.mapUpdate
      rw [bM hty]
      simp [hgo, hck, hf, F6 hh]

theorem DN {mt kt et rt : TypeId} {kk kv : Kd} {key : kk.den} {u : Value} {r cl : Nat} {es : Array MapEntry} {m : List (kk.den × kv.den)} {d : TypeDesc} {ts : Array TypeId} (ht : ts[0]? = some mt)
    (hty : P.underlying mt = some (.map kt et)) (hd : P.underlying kt = some d) (hk : pO kk (some d) = true) (hh : w.heap[r]? = some (.map es cl)) (hm : yz G kk kv m es.toList cl) (hu : VR G kk key u) :
    ∃ es' cl', (Builtin.delete_ ts rt #[.map (some r), u]).run P w = .ok (.tuple #[]) (setH w r (.map es' cl')) ∧ yz G kk kv (xw kk kv key m) es'.toList cl' := by
  have hck : ∀ b, (Instr.checkKey b 10000 kt u).run P w = .ok () w := fun b => AV hd hk hu
  have hgo : (getObj r).run P w = .ok (.map es cl) w := by simp [getObj, Sem.run, hh]
  rcases GX (i := 0) hk hu hm.1 with ⟨j, e, k1, k2, k3, k4, k5⟩ | ⟨k1, k2, k3⟩
  · have hf : (Instr.findKey kt u es.toList).run P w = .ok (some (j, e.val)) w := by simp [Instr.findKey, underlying, hd, k1]
    refine ⟨es.eraseIdxIfInBounds j, cl, ?_, ?_⟩
    · unfold Builtin.delete_
      simp only [ht, List.getElem?_toArray, List.getElem?_cons_zero, List.getElem?_cons_succ]
      simp [bM hty, hgo, hck, hf, F6 hh]
    · rw [k4]
      have he : (es.eraseIdxIfInBounds j).toList = es.toList.eraseIdx j := Array.toList_eraseIdxIfInBounds ..
      rw [he]
      refine ⟨Jc (j := j) hm.1, fun x hx => hm.2.1 _ (List.mem_of_mem_eraseIdx hx), ?_⟩
      exact List.Sublist.nodup (List.Sublist.map _ (List.eraseIdx_sublist ..)) hm.2.2
  · have hf : (Instr.findKey kt u es.toList).run P w = .ok none w := by simp [Instr.findKey, underlying, hd, k1]
    refine ⟨es, cl, ?_, by rw [k2]; exact hm⟩
    unfold Builtin.delete_
    simp only [ht, List.getElem?_toArray, List.getElem?_cons_zero, List.getElem?_cons_succ]
    simp [bM hty, hgo, hck, hf, F6 hh]

theorem MF {w' : World} {t i r : Nat} {es' : Array MapEntry} {cl' : Nat} {mp : MP} (hr2 : ∀ b, b ≠ r → w'.heap[b]? = w.heap[b]?) (hw : w'.heap[r]? = some (.map es' cl')) (hm : yz G mp.kk mp.kv mp.m es'.toList cl')
    (hfi : ∀ b b' t i f, G.role b = .fld t i f → G.role b' = .fld t i f → b = b') :
    ∀ {fs : List Fk} {x x' : az fs} {f g : Nat} {cs : List Value}, G.role r = .fld t i (g + f) → Lm fs x f mp = some x' → pR w G Ls t i g fs x cs → pR w' G Ls t i g fs x' cs
  | [], _, _, _, _, _, _, h, _ => by simp [Lm] at h
  | .p k :: fs, x, x', 0, g, cs, hr, h, ho => by simp [Lm] at h
  | .own e bt k :: fs, x, x', 0, g, cs, hr, h, ho => by simp [Lm] at h
  | .omap kk kv :: fs, x, x', 0, g, cs, hr, h, ho => by
    unfold Lm at h
    split at h
    · rename_i hkk
      obtain ⟨k1, k2, m⟩ := mp
      obtain ⟨h1, h2⟩ := hkk
      simp only at h1 h2
      subst h1; subst h2
      simp only [Option.some.injEq] at h; subst h
      obtain ⟨c1, c2, rfl, ⟨r', es, cl, rfl, k1, k2, k3⟩, hrest⟩ := ho
      have : r' = r := hfi _ _ _ _ _ k1 (by simpa using hr)
      subst this
      refine ⟨_, c2, rfl, ⟨_, es', cl', rfl, k1, hw, hm⟩, ?_⟩
      refine ObjR_keep' (r := r') hr2 ?_ hrest
      intro f p hf
      rw [k1]
      exact ⟨by simp; omega, by simp⟩
    · simp at h
  | fk :: fs, x, x', f + 1, g, cs, hr, h, ho => by
    have h' : ∃ y, Lm fs x.2 f mp = some y ∧ x' = (x.1, y) := by
      cases fk <;> (unfold Lm at h; split at h <;> simp_all)
    obtain ⟨y, hy, rfl⟩ := h'
    obtain ⟨c1, c2, rfl, h1, h2⟩ := ho
    refine ⟨c1, c2, rfl, ?_, MF hr2 hw hm hfi (by rw [hr]; congr 1; omega) hy h2⟩
    refine uH (Gh.le_refl G) (fun b hb => ⟨hr2 b ?_, rfl⟩) h1
    intro he; subst he
    rcases hb with hb | ⟨p, hb⟩ <;> rw [hr] at hb <;> simp at hb
  where
  ObjR_keep' {w' : World} {t i r : Nat} (hr2 : ∀ b, b ≠ r → w'.heap[b]? = w.heap[b]?) : ∀ {fs : List Fk} {x : az fs} {g : Nat} {cs : List Value},
      (∀ f p, g < f + 1 + 0 ∧ g ≤ f → G.role r ≠ .fld t i f ∧ G.role r ≠ .grow (.fld t i f) p) → pR w G Ls t i g fs x cs → pR w' G Ls t i g fs x cs
    | [], _, _, _, _, h => h
    | fk :: fs, x, g, cs, hne, ⟨c1, c2, hc, h1, h2⟩ => by
      refine ⟨c1, c2, hc, ?_, ObjR_keep' hr2 (fun f p hf => hne f p (by omega)) h2⟩
      refine uH (Gh.le_refl G) (fun b hb => ⟨hr2 b ?_, rfl⟩) h1
      intro he; subst he
      rcases hb with hb | ⟨p, hb⟩
      · exact (hne g [] (by omega)).1 hb
      · exact (hne g p (by omega)).2 hb

theorem Holds.U4 (h : Holds w G T Ls) {t i f r cl : Nat} {fs : List Fk} {x x' : az fs} {mp : MP} {es : Array MapEntry} {o0 : Obj} (hr : G.role r = .fld t i f) (ho : og T t i fs x) (hs : Lm fs x f mp = some x') (hT : Ip T T' t i fs x')
    (hh : w.heap[r]? = some o0) (hm : yz G mp.kk mp.kv mp.m es.toList cl) : Holds (setH w r (.map es cl)) G T' Ls := by
  obtain ⟨⟨xs, hT1, hT2⟩, hT3⟩ := hT
  obtain ⟨xs0, ho1, ho2⟩ := ho
  rw [hT1] at ho1
  simp only [Option.some.injEq, Tab.mk.injEq, heq_eq_eq, true_and] at ho1
  subst ho1
  have hlt := (List.getElem?_eq_some_iff.1 ho2).1
  refine h.change (fun b => b = r) (Gh.le_refl G) ⟨rfl, rfl, rfl⟩ ?_ (fun b hb => ⟨tJ hb, rfl⟩) (fun b hb => by subst hb; unfold bJ; rw [hr]; trivial) ?_ ?_ h.nd ?_ h.inj h.finj ?_
  · intro b hb; simp [setH] at hb; exact h.free b hb
  · intro b t' i' hb hb' tab y cs k1 k2 k3
    by_cases hti : t' = t ∧ i' = i
    · obtain ⟨rfl, rfl⟩ := hti
      rw [hT1] at k1
      simp only [Option.some.injEq] at k1; subst k1
      simp only at k2
      rw [ho2] at k2
      simp only [Option.some.injEq] at k2; subst k2
      refine ⟨_, x', hT2, by simp [hlt], ?_⟩
      exact MF (r := r) (fun b hb => tJ hb) (Hm hh) hm h.finj (by simpa using hr) hs k3
    · have hk : pR (setH w r (.map es cl)) G Ls t' i' 0 tab.fs y cs := by
        refine bQ (w := w) (Gh.le_refl G) (fun _ => rfl) (fun b2 f2 hb2 => ⟨tJ ?_, rfl⟩) k3
        intro he; subst he
        rcases hb2 with hb2 | ⟨p, hb2⟩ <;> rw [hr] at hb2 <;> simp at hb2
        exact hti ⟨hb2.1.symm, hb2.2.1.symm⟩
      by_cases ht : t' = t
      · subst ht
        rw [hT1] at k1
        simp only [Option.some.injEq] at k1; subst k1
        refine ⟨⟨fs, xs.set i x'⟩, y, hT2, ?_, hk⟩
        simp only at k2 ⊢
        rw [List.getElem?_set_ne (fun hi => hti ⟨rfl, hi.symm⟩)]; exact k2
      · exact ⟨tab, y, by rw [hT3 t' ht]; exact k1, k2, hk⟩
  · intro l hl
    refine fC (w := w) (Gh.le_refl G) (fun b hb => ⟨tJ ?_, rfl⟩) (h.loc l hl)
    intro he; subst he
    rcases h.BJ hl hb with h1 | ⟨p, h1⟩ <;> rw [hr] at h1 <;> simp at h1
  · intro t' tab i' h1 h2
    by_cases ht : t' = t
    · subst ht
      rw [hT2] at h1
      simp only [Option.some.injEq] at h1; subst h1
      exact h.ex _ _ i' hT1 (by simpa using h2)
    · rw [hT3 t' ht] at h1
      exact h.ex t' tab i' h1 h2
  · intro b t' i' f' hb
    obtain ⟨tab, h1, h2⟩ := h.fex b t' i' f' hb
    by_cases ht : t' = t
    · subst ht
      rw [hT1] at h1
      simp only [Option.some.injEq] at h1; subst h1
      exact ⟨_, hT2, by simpa using h2⟩
    · exact ⟨tab, by rw [hT3 t' ht]; exact h1, h2⟩

theorem Yp (h : Holds w G T Ls) {t i f : Nat} {fs : List Fk} {x : az fs} {mp : MP} {v : Value} (hv : EnR G (.fm t i f) v) (ho : og T t i fs x) (hm : FP fs x f = some mp) :
    ∃ r es cl, v = .map (some r) ∧ G.role r = .fld t i f ∧ w.heap[r]? = some (.map es cl) ∧ yz G mp.kk mp.kv mp.m es.toList cl := by
  obtain ⟨r, rfl, hr⟩ := hv
  obtain ⟨xs, h1, h2⟩ := ho
  obtain ⟨b, hb⟩ := h.ex t _ i h1 (List.getElem?_eq_some_iff.1 h2).1
  obtain ⟨ce, ty, hh, hob⟩ := h.at hb ⟨xs, h1, h2⟩
  obtain ⟨r', es, cl, k1, k2, k3⟩ := Px hm hob
  rw [Nat.zero_add] at k1
  have := h.finj r r' t i f hr k1
  subst this
  exact ⟨r, es, cl, rfl, hr, k2, k3⟩

end
end Go.Proofs.YtbnmhjobnepajaaGreat.M


namespace Go.Proofs.YtbnmhjobnepajaaGreat.M

end Go.Proofs.YtbnmhjobnepajaaGreat.M


namespace Go.Proofs.YtbnmhjobnepajaaGreat.M

section
variable {P : Program} {w : World} {G : Gh} {T T' : Tabs} {Ls : List LS} {a : Act} {N : Nat} {E : Env} {ops : Array Oper} {Q : Exit → Act → World → Prop}

theorem Holds.abV (h : Holds w G T Ls) (kk kv : Kd) : Holds (w.alloc (.map #[] 0)) (G.set w.heap.size .loc) T (.mp w.heap.size kk kv [] :: Ls) :=
  h.yF _ .loc _ (.inl rfl) (by unfold bJ; rw [Gh.aA]; trivial) ⟨Gh.aA _ _ _, #[], 0, heap_alloc_new' w _, trivial, fun _ h => by simp at h, by simp⟩ rfl (fun _ _ _ => rfl)

theorem Holds.aaw {r : Nat} {kk kv : Kd} {m : List (kk.den × kv.den)} (h : Holds w G T (.mp r kk kv m :: Ls)) {t i f : Nat} {fs : List Fk} {x : az fs} (hT : AddT T T' t i fs x) {cs : Array Value} (e : TypeId)
    (hob : ∀ (w2 : World) (G2 : Gh), G.le G2 → G2.role r = .fld t i f → (∃ es cl, w2.heap[r]? = some (.map es cl) ∧ yz G2 kk kv m es.toList cl) → pR w2 G2 Ls t i 0 fs x cs.toList) :
    G.le ((G.set w.heap.size (.obj t i)).set r (.fld t i f)) ∧ Holds (w.alloc (.cells cs e)) ((G.set w.heap.size (.obj t i)).set r (.fld t i f)) T' Ls := by
  obtain ⟨hr, es, cl, hes, hm⟩ := h.loc _ List.mem_cons_self
  have hrlt : r < w.heap.size := h.lt (by rw [hr]; simp)
  obtain ⟨xs, h1, h2, h3, h4⟩ := hT
  subst h3
  have hno : ∀ b, G.role b ≠ .obj t xs.length := by
    intro b hb
    have := h.block b
    unfold bJ at this
    rw [hb] at this
    obtain ⟨tab, y, ce, ty, k1, k2, _⟩ := this
    rw [h1] at k1
    simp only [Option.some.injEq] at k1; subst k1
    simp at k2
  have hnf : ∀ b f', G.role b ≠ .fld t xs.length f' := by
    intro b f' hb
    obtain ⟨tab, k1, k2⟩ := h.fex b _ _ _ hb
    rw [h1] at k1
    simp only [Option.some.injEq] at k1; subst k1
    simp at k2
  have hle1 : G.le (G.set w.heap.size (.obj t xs.length)) := Gh.iH h _
  have hle : G.le ((G.set w.heap.size (.obj t xs.length)).set r (.fld t xs.length f)) := by
    refine Gh.le_trans hle1 (Gh.Ky ?_)
    rw [Gh.aW _ _ (by omega), hr]
    trivial
  have hrole : ∀ b, b ≠ w.heap.size → b ≠ r → ((G.set w.heap.size (.obj t xs.length)).set r (.fld t xs.length f)).role b = G.role b := fun b k1 k2 => by rw [Gh.aW _ _ k2, Gh.aW _ _ k1]
  have hnew : ((G.set w.heap.size (.obj t xs.length)).set r (.fld t xs.length f)).role w.heap.size = .obj t xs.length := by rw [Gh.aW _ _ (by omega), Gh.aA]
  have hrr : ((G.set w.heap.size (.obj t xs.length)).set r (.fld t xs.length f)).role r = .fld t xs.length f := Gh.aA _ _ _
  have hnr : r ∉ Ls.filterMap LS.blk := by
    have := h.nd
    rw [List.filterMap_cons_some (show LS.blk (.mp r kk kv m) = some r from rfl)] at this
    exact (List.nodup_cons.1 this).1
  refine ⟨hle, h.change (fun b => b = w.heap.size ∨ b = r) hle ⟨rfl, rfl, rfl⟩ ?_ ?_ ?_ ?_ ?_ ?_ ?_ ?_ ?_ ?_⟩
  · intro b hb
    simp at hb
    rw [hrole b (by omega) (by omega)]
    exact h.free b (by omega)
  · intro b hb
    exact ⟨iq w _ (fun he => hb (.inl he)), hrole b (fun he => hb (.inl he)) (fun he => hb (.inr he))⟩
  · intro b hb
    rcases hb with rfl | rfl
    · unfold bJ
      rw [hnew]
      refine ⟨_, x, cs, e, h2, by simp, heap_alloc_new' w _, hob _ _ hle hrr ⟨es, cl, ?_, wK hle hm⟩⟩
      rw [iq w _ (by omega)]; exact hes
    · unfold bJ; rw [hrr]; trivial
  · intro b t' i' hb hb' tab y cs' k1 k2 k3
    have hk : pR (w.alloc (.cells cs e)) ((G.set w.heap.size (.obj t xs.length)).set r (.fld t xs.length f)) Ls t' i' 0 tab.fs y cs' := by
      refine bQ hle (fun f2 => (fD (fun _ _ _ => rfl) _ _ _ _).symm) (fun b2 f2 hb2 => ?_) k3
      have n1 : b2 ≠ w.heap.size := fun he => by
        have := h.free b2 (by omega)
        rcases hb2 with hb2 | ⟨p, hb2⟩ <;> rw [this] at hb2 <;> simp at hb2
      have n2 : b2 ≠ r := fun he => by
        subst he
        rcases hb2 with hb2 | ⟨p, hb2⟩ <;> rw [hr] at hb2 <;> simp at hb2
      exact ⟨iq w _ n1, hrole b2 n1 n2⟩
    by_cases ht : t' = t
    · subst ht
      rw [h1] at k1
      simp only [Option.some.injEq] at k1; subst k1
      refine ⟨⟨fs, xs ++ [x]⟩, y, h2, ?_, hk⟩
      simp only at k2 ⊢
      rw [List.getElem?_append_left (List.getElem?_eq_some_iff.1 k2).1]; exact k2
    · exact ⟨tab, y, by rw [h4 t' ht]; exact k1, k2, hk⟩
  · intro l hl
    refine fC hle (fun b hb => ?_) (h.loc l (List.mem_cons_of_mem _ hl))
    have n1 : b ≠ w.heap.size := by
      have := h.yj (List.mem_cons_of_mem _ hl) hb
      omega
    have n2 : b ≠ r := fun he => by
      subst he
      exact hnr (List.mem_filterMap.2 ⟨l, hl, hb⟩)
    exact ⟨iq w _ n1, hrole b n1 n2⟩
  · have := h.nd
    rw [List.filterMap_cons_some (show LS.blk (.mp r kk kv m) = some r from rfl)] at this
    exact (List.nodup_cons.1 this).2
  · intro t' tab i' k1 k2
    have keep : ∀ b, G.role b = .obj t' i' → ((G.set w.heap.size (.obj t xs.length)).set r (.fld t xs.length f)).role b = .obj t' i' := fun b hb => by
      rw [hrole b (fun he => by rw [h.free b (by omega)] at hb; simp at hb) (fun he => by subst he; rw [hr] at hb; simp at hb)]; exact hb
    by_cases ht : t' = t
    · subst ht
      rw [h2] at k1
      simp only [Option.some.injEq] at k1; subst k1
      simp only [List.length_append, List.length_cons, List.length_nil] at k2
      rcases Nat.lt_or_ge i' xs.length with k3 | k3
      · obtain ⟨b, hb⟩ := h.ex _ _ i' h1 k3
        exact ⟨b, keep b hb⟩
      · exact ⟨w.heap.size, by rw [hnew, show i' = xs.length by omega]⟩
    · rw [h4 _ ht] at k1
      obtain ⟨b, hb⟩ := h.ex _ _ i' k1 k2
      exact ⟨b, keep b hb⟩
  · intro b b' t' i' k1 k2
    by_cases c1 : b = r
    · subst c1; rw [hrr] at k1; simp at k1
    · by_cases c2 : b' = r
      · subst c2; rw [hrr] at k2; simp at k2
      · by_cases d1 : b = w.heap.size
        · by_cases d2 : b' = w.heap.size
          · rw [d1, d2]
          · subst d1
            rw [hnew] at k1
            simp only [nX.obj.injEq] at k1
            rw [hrole b' d2 c2, ← k1.1, ← k1.2] at k2
            exact (hno _ k2).elim
        · by_cases d2 : b' = w.heap.size
          · subst d2
            rw [hnew] at k2
            simp only [nX.obj.injEq] at k2
            rw [hrole b d1 c1, ← k2.1, ← k2.2] at k1
            exact (hno _ k1).elim
          · rw [hrole b d1 c1] at k1
            rw [hrole b' d2 c2] at k2
            exact h.inj _ _ _ _ k1 k2
  · intro b b' t' i' f' k1 k2
    by_cases d1 : b = w.heap.size
    · subst d1; rw [hnew] at k1; simp at k1
    · by_cases d2 : b' = w.heap.size
      · subst d2; rw [hnew] at k2; simp at k2
      · by_cases c1 : b = r
        · by_cases c2 : b' = r
          · rw [c1, c2]
          · subst c1
            rw [hrr] at k1
            simp only [nX.fld.injEq] at k1
            rw [hrole b' d2 c2, ← k1.1, ← k1.2.1] at k2
            exact (hnf _ _ k2).elim
        · by_cases c2 : b' = r
          · subst c2
            rw [hrr] at k2
            simp only [nX.fld.injEq] at k2
            rw [hrole b d1 c1, ← k2.1, ← k2.2.1] at k1
            exact (hnf _ _ k1).elim
          · rw [hrole b d1 c1] at k1
            rw [hrole b' d2 c2] at k2
            exact h.finj _ _ _ _ _ k1 k2
  · intro b t' i' f' k1
    by_cases d1 : b = w.heap.size
    · subst d1; rw [hnew] at k1; simp at k1
    · by_cases c1 : b = r
      · subst c1
        rw [hrr] at k1
        simp only [nX.fld.injEq] at k1
        obtain ⟨rfl, rfl, rfl⟩ := k1
        exact ⟨_, h2, by simp⟩
      · rw [hrole b d1 c1] at k1
        obtain ⟨tab, k2, k3⟩ := h.fex _ _ _ _ k1
        by_cases ht : t' = t
        · subst ht
          rw [h1] at k2
          simp only [Option.some.injEq] at k2; subst k2
          exact ⟨_, h2, by simp only at k3; simp; omega⟩
        · exact ⟨tab, by rw [h4 _ ht]; exact k2, k3⟩

end
end Go.Proofs.YtbnmhjobnepajaaGreat.M


namespace Go.Proofs.YtbnmhjobnepajaaGreat.M

end Go.Proofs.YtbnmhjobnepajaaGreat.M


namespace Go.Proofs.YtbnmhjobnepajaaGreat.M

section
variable {P : Program} {w : World} {G : Gh} {T T' : Tabs} {Ls : List LS} {a : Act} {N : Nat} {E : Env} {ops : Array Oper} {Q : Exit → Act → World → Prop}

abbrev itO (mr cl : Nat) (seen : Array Nat) : Obj := .mapIter (some mr) cl seen cl

theorem Holds.aav (h : Holds w G T Ls) (o : Obj) : Holds (w.alloc o) (G.set w.heap.size .loc) T (.iter w.heap.size o :: Ls) :=
  h.yF _ .loc _ (.inl rfl) (by unfold bJ; rw [Gh.aA]; trivial) ⟨Gh.aA _ _ _, heap_alloc_new' w _⟩ rfl (fun _ _ _ => rfl)

theorem Holds.Yv {r : Nat} {o : Obj} (h : Holds w G T (.iter r o :: Ls)) (o' : Obj) : Holds (setH w r o') G T (.iter r o' :: Ls) := by
  obtain ⟨hr, hh⟩ := h.loc _ List.mem_cons_self
  have hnr : r ∉ Ls.filterMap LS.blk := by
    have := h.nd
    rw [List.filterMap_cons_some (show LS.blk (.iter r o) = some r from rfl)] at this
    exact (List.nodup_cons.1 this).1
  refine h.change (fun b => b = r) (Gh.le_refl G) ⟨rfl, rfl, rfl⟩ ?_ (fun b hb => ⟨tJ hb, rfl⟩) (fun b hb => by subst hb; unfold bJ; rw [hr]; trivial) ?_ ?_ ?_ h.ex h.inj h.finj h.fex
  · intro b hb; simp [setH] at hb; exact h.free b hb
  · intro b t i hb hb' tab x cs k1 k2 k3
    refine ⟨tab, x, k1, k2, bQ (w := w) (Gh.le_refl G) (fun f => ?_) (fun b2 f2 hb2 => ⟨tJ ?_, rfl⟩) k3⟩
    · rw [fD (fun _ _ _ => rfl), fD (fun _ _ _ => rfl)]
    · intro he; subst he
      rcases hb2 with hb2 | ⟨p, hb2⟩ <;> rw [hr] at hb2 <;> simp at hb2
  · intro l hl
    rcases List.mem_cons.1 hl with rfl | hl'
    · exact ⟨hr, Hm hh⟩
    · refine fC (w := w) (Gh.le_refl G) (fun b hb => ⟨tJ ?_, rfl⟩) (h.loc l (List.mem_cons_of_mem _ hl'))
      intro he; subst he
      exact hnr (List.mem_filterMap.2 ⟨l, hl', hb⟩)
  · have := h.nd
    rw [List.filterMap_cons_some (show LS.blk (.iter r o) = some r from rfl)] at this
    rw [List.filterMap_cons_some (show LS.blk (.iter r o') = some r from rfl)]
    exact this

def Y5 (P : Program) (ops : Array Oper) (E : Env) (i : Nat) : Option (En × Option Nat) :=
  match ops[i]? with
  | some o => (match goes ops (look E []) o, o.op with
    | true, .range ty x => (match P.underlying ty, gz (look E []) [] x with
      | some (.map _ _), some e => some (e, o.dst)
      | _, _ => none)
    | _, _ => none)
  | none => none

theorem Oa {kk kv : Kd} {t j f : Nat} {m : List (kk.den × kv.den)} {fs : List Fk} {x : az fs} {d : Option Nat} {i : Nat} (hE : dD G N a E) (hH : Holds w G T Ls) (hb : Y5 P ops E i = some (.fm t j f, d)) (hd : EP d N = true)
    (ho : og T t j fs x) (hm : FP fs x f = some ⟨kk, kv, m⟩)
    (k : ∀ r mr es cl a' w' G', G.le G' → dD G' N a' (L6 d (.val (.pointer (some ⟨r, 0, none⟩))) E) → Holds w' G' T (.iter r (itO mr cl #[]) :: Ls) → w'.heap[mr]? = some (.map es cl) → G'.role mr = .fld t j f → yz G' kk kv m es.toList cl → ed P ops Q (i + 1) a' w') : ed P ops Q i a w := by
  unfold Y5 at hb
  split at hb
  · rename_i o hop
    split at hb
    · rename_i ty x0 hg hop'
      split at hb
      · rename_i kt et e hu hx
        simp only [Option.some.injEq, Prod.mk.injEq] at hb
        obtain ⟨rfl, rfl⟩ := hb
        have hv1 := dG (aI hE) (by simp) hx
        obtain ⟨mr, es, cl, hv, hr, hh, hmm⟩ := Yp hH hv1 ho hm
        have hgo : (getObj mr).run P w = .ok (.map es cl) w := by simp [getObj, Sem.run, hh]
        have hlt : mr < w.heap.size := hH.lt (by rw [hr]; simp)
        refine pJ hop (sH (aI hE) hg) (v := .pointer (some ⟨w.heap.size, 0, none⟩)) (w' := w.alloc (itO mr cl #[])) ?_
          (k w.heap.size mr es cl _ _ _ (Gh.iH hH .loc) ((hE.mono (Gh.iH hH .loc)).L8 hd rfl) (hH.aav _) ?_ ?_ (wK (Gh.iH hH _) hmm))
        · simp only [execOp, hop', hv]
          refine dA ?_
          unfold Instr.range
          rw [bM hu]
          simp [hgo, newObj, Sem.run]
        · rw [iq w _ (by omega)]; exact hh
        · rw [Gh.aW _ _ (by omega)]; exact hr
      · simp at hb
    · simp at hb
  · simp at hb

theorem Rt (n : Nat) (hn : 0 < n) : ∃ c n', (choose (.mapNext n)).run P w = .ok c { w with drawn := n' } ∧ c < n := by
  by_cases h1 : n ≤ 1
  · refine ⟨0, w.drawn, ?_, hn⟩
    simp [choose, Sem.run, Question.forced, h1]
  · refine ⟨(Question.mapNext n).cut (w.tape w.drawn (.mapNext n)), w.drawn + 1, ?_, ?_⟩
    · simp [choose, Sem.run, Question.forced, h1]
    · simp only [Question.cut]
      exact Nat.mod_lt _ hn

theorem KE {G : Gh} {kk kv : Kd} : ∀ {m : List (kk.den × kv.den)} {es : List MapEntry} {i : Nat} {e : MapEntry}, TL G kk kv m es → es[i]? = some e → ∃ p, m[i]? = some p ∧ VR G kk p.1 e.key ∧ VR G kv p.2 e.val
  | [], [], i, e, _, h => by simp at h
  | p :: m, e0 :: es, 0, e, ⟨h1, h2⟩, h => by
    simp at h; subst h
    exact ⟨p, rfl, h1⟩
  | p :: m, e0 :: es, i + 1, e, ⟨h1, h2⟩, h => by
    obtain ⟨q, k1, k2⟩ := KE h2 (by simpa using h)
    exact ⟨q, by simpa using k1, k2⟩
  | [], _ :: _, _, _, h, _ => h.elim
  | _ :: _, [], _, _, h, _ => h.elim

def aaU (ops : Array Oper) (E : Env) (i : Nat) : Option (En × Option Nat) :=
  match ops[i]? with
  | some o => (match goes ops (look E []) o, o.op with
    | true, .next x false => (match gz (look E []) [] x with
      | some e => some (e, o.dst)
      | none => none)
    | _, _ => none)
  | none => none

theorem RI {kk kv : Kd} {r mr cl : Nat} {es : Array MapEntry} {seen : Array Nat} {m : List (kk.den × kv.den)} {d : Option Nat} {i : Nat} (hE : dD G N a E) (hH : Holds w G T (.iter r (itO mr cl seen) :: Ls)) (hh : w.heap[mr]? = some (.map es cl)) (hm : yz G kk kv m es.toList cl)
    (hb : aaU ops E i = some (.val (.pointer (some ⟨r, 0, none⟩)), d)) (hd : EP d N = true)
    (kover : (∀ e ∈ es.toList, e.born ∈ seen.toList) → ∀ a' w', dD G N a' (L6 d (.tup [⟨.bool, false⟩]) E) → Holds w' G T (.iter r (itO mr cl seen) :: Ls) → ed P ops Q (i + 1) a' w')
    (kgo : ∀ (ix : Nat) (e : MapEntry) (p : kk.den × kv.den), es.toList[ix]? = some e → m[ix]? = some p → e.born ∉ seen.toList → ∀ a' w', dD G N a' (L6 d (.tup [⟨.bool, true⟩, ⟨kk, p.1⟩, ⟨kv, p.2⟩]) E) → Holds w' G T (.iter r (itO mr cl (seen.push e.born)) :: Ls) → w'.heap[mr]? = some (.map es cl) → ed P ops Q (i + 1) a' w') : ed P ops Q i a w := by
  unfold aaU at hb
  split at hb
  · rename_i o hop
    split at hb
    · rename_i x0 hg hop'
      split at hb
      · rename_i e0 hx
        simp only [Option.some.injEq, Prod.mk.injEq] at hb
        obtain ⟨rfl, rfl⟩ := hb
        have hv : a.eval x0 = .pointer (some ⟨r, 0, none⟩) := dG (aI hE) (by simp) hx
        obtain ⟨hr, hit⟩ := hH.loc _ List.mem_cons_self
        have hgr : (getObj r).run P w = .ok (itO mr cl seen) w := by simp [getObj, Sem.run, hit]
        have hgm : (getObj mr).run P w = .ok (.map es cl) w := by simp [getObj, Sem.run, hh]
        have hbound : ∀ e ∈ es, e.born < cl := fun e he => hm.2.1 e (by simpa using he)
        -- those that are left
        let left := es.filter fun e => !seen.contains e.born
        have hold : left.filter (·.born < cl) = left := by
          rw [Array.filter_eq_self]
          intro e he
          simp only [decide_eq_true_eq]
          exact hbound e (Array.mem_filter.1 he).1
        have hnew : left.filter (·.born ≥ cl) = #[] := by
          rw [Array.filter_eq_empty_iff]
          intro e he
          simp only [ge_iff_le, decide_eq_true_eq, Nat.not_le]
          exact hbound e (Array.mem_filter.1 he).1
        have hnot : (!seen.isEmpty && !es.isEmpty && es.all (·.born ≥ cl)) = false := by
          by_cases he : es = #[]
          · subst he; simp
          · have : ∃ e, e ∈ es := by
              have h0 : 0 < es.size := by
                rcases Nat.eq_zero_or_pos es.size with h0 | h0
                · exact (he (Array.eq_empty_of_size_eq_zero h0)).elim
                · exact h0
              exact ⟨es[0], by simp⟩
            obtain ⟨e, hme⟩ := this
            have h1 : es.all (·.born ≥ cl) = false := by
              rw [Array.all_eq_false]
              obtain ⟨q, hq, rfl⟩ := Array.mem_iff_getElem.1 hme
              exact ⟨q, hq, by simp; exact hbound _ (by simp)⟩
            rw [h1]; simp
        by_cases hl : left = #[]
        · refine pJ hop (sH (aI hE) hg) (v := .tuple #[.bool false]) (w' := w) ?_ (kover ?_ _ _ (hE.L8 hd ⟨_, rfl, qw.2 rfl, trivial⟩) hH)
          · simp only [execOp, hop', hv]
            refine dA ?_
            unfold Instr.next
            simp only [Sem.run_bind, hgr, hgm, Result.andThen_ok, hnot, Bool.false_eq_true, if_false]
            simp only [show (es.filter fun e => !seen.contains e.born) = left from rfl, hold, hnew, Array.append_empty]
            rw [hl]
            simp [choose, Sem.run, Question.forced]
          · intro e he
            by_cases hc : e.born ∈ seen.toList
            · exact hc
            · have : e ∈ left := Array.mem_filter.2 ⟨by simpa using he, by simpa using hc⟩
              rw [hl] at this; simp at this
        · have hpos : 0 < left.size := by
            rcases Nat.eq_zero_or_pos left.size with h0 | h0
            · exact (hl (Array.eq_empty_of_size_eq_zero h0)).elim
            · exact h0
          have hemp : left.isEmpty = false := by simp [Array.isEmpty]; omega
          obtain ⟨c, n', hc, hclt⟩ := Rt (P := P) (w := w) left.size hpos
          have hel : left[c] ∈ left := by simp
          obtain ⟨hes, hns⟩ := Array.mem_filter.1 hel
          obtain ⟨ix, hix, hix2⟩ := Array.mem_iff_getElem.1 hes
          have hix3 : es.toList[ix]? = some left[c] := by simp [hix, hix2]
          obtain ⟨p, hp1, hp2, hp3⟩ := KE hm.1 hix3
          have hdr := hH.drawn n'
          have hit' : ({ w with drawn := n' } : World).heap[r]? = some (itO mr cl seen) := hit
          refine pJ hop (sH (aI hE) hg) (v := .tuple #[.bool true, left[c].key, left[c].val]) (w' := setH { w with drawn := n' } r (itO mr cl (seen.push left[c].born))) ?_
            (kgo ix left[c] p hix3 hp1 (by simpa using hns) _ _ (hE.L8 hd ⟨_, rfl, qw.2 rfl, hp2, hp3, trivial⟩) (hdr.Yv _) ?_)
          · simp only [execOp, hop', hv]
            refine dA ?_
            unfold Instr.next
            simp only [Sem.run_bind, hgr, hgm, Result.andThen_ok, hnot, Bool.false_eq_true, if_false]
            simp only [show (es.filter fun e => !seen.contains e.born) = left from rfl, hold, hnew, Array.append_empty]
            simp only [hemp, Bool.false_eq_true, if_false, Array.empty_append, Array.size_map, Sem.run_bind, hc, Result.andThen_ok]
            simp [hclt, setObj, Sem.run, hit, setH]
          · rw [tJ (by
              intro he
              subst he
              rw [hit] at hh; simp at hh)]
            exact hh
      · simp at hb
    · simp at hb
  · simp at hb

def XW (ops : Array Oper) (E : Env) (i : Nat) : Option (En × Option Nat) :=
  match ops[i]? with
  | some o => (match goes ops (look E []) o, o.op with
    | true, .entry x => (match gz (look E []) [] x with
      | some e => some (e, o.dst)
      | none => none)
    | _, _ => none)
  | none => none

theorem N9 {kk kv : Kd} {r mr cl ix : Nat} {es : Array MapEntry} {e : MapEntry} {p : kk.den × kv.den} {seen : Array Nat} {m : List (kk.den × kv.den)} {d : Option Nat} {i : Nat} (hE : dD G N a E) (hH : Holds w G T (.iter r (itO mr cl (seen.push e.born)) :: Ls)) (hh : w.heap[mr]? = some (.map es cl)) (hm : yz G kk kv m es.toList cl)
    (hix : es.toList[ix]? = some e) (hp : m[ix]? = some p) (hb : XW ops E i = some (.val (.pointer (some ⟨r, 0, none⟩)), d)) (hd : EP d N = true)
    (k : ∀ a', dD G N a' (L6 d (.tup [⟨kk, p.1⟩, ⟨kv, p.2⟩]) E) → ed P ops Q (i + 1) a' w) : ed P ops Q i a w := by
  unfold XW at hb
  split at hb
  · rename_i o hop
    split at hb
    · rename_i x0 hg hop'
      split at hb
      · rename_i e0 hx
        simp only [Option.some.injEq, Prod.mk.injEq] at hb
        obtain ⟨rfl, rfl⟩ := hb
        have hv : a.eval x0 = .pointer (some ⟨r, 0, none⟩) := dG (aI hE) (by simp) hx
        obtain ⟨hr, hit⟩ := hH.loc _ List.mem_cons_self
        have hgr : (getObj r).run P w = .ok (itO mr cl (seen.push e.born)) w := by simp [getObj, Sem.run, hit]
        have hgm : (getObj mr).run P w = .ok (.map es cl) w := by simp [getObj, Sem.run, hh]
        obtain ⟨q, hq1, hq2, hq3⟩ := KE hm.1 hix
        rw [hp] at hq1
        simp only [Option.some.injEq] at hq1; subst hq1
        have hfind : es.find? (·.born == e.born) = some e := by
          have hmem : e ∈ es := by
            have := List.mem_of_getElem? hix
            simpa using this
          cases hf : es.find? (·.born == e.born) with
          | none =>
            have := Array.find?_eq_none.1 hf e hmem
            simp at this
          | some e' =>
            have h1 : e'.born = e.born := by simpa using Array.find?_some hf
            have h2 : e' ∈ es.toList := by simpa using Array.mem_of_find?_eq_some hf
            rw [nodup_born hm.2.2 h2 (by simpa using hmem) h1]
        refine pJ hop (sH (aI hE) hg) (v := .tuple #[e.key, e.val]) (w' := w) ?_ (k _ (hE.L8 hd ⟨_, rfl, hq2, hq3, trivial⟩))
        simp only [execOp, hop', hv]
        refine dA ?_
        unfold Instr.entry
        simp [hgr, hgm, hfind]
      · simp at hb
    · simp at hb
  · simp at hb
  where
  nodup_born : ∀ {es : List MapEntry} {x y : MapEntry}, (es.map (·.born)).Nodup → x ∈ es → y ∈ es → x.born = y.born → x = y
    | [], _, _, _, h, _, _ => by simp at h
    | e :: es, x, y, hn, hx, hy, hb => by
      simp only [List.map_cons, List.nodup_cons] at hn
      rcases List.mem_cons.1 hx with hx' | hx'
      · rcases List.mem_cons.1 hy with hy' | hy'
        · rw [hx', hy']
        · exact (hn.1 (List.mem_map.2 ⟨y, hy', by rw [← hb, hx']⟩)).elim
      · rcases List.mem_cons.1 hy with hy' | hy'
        · exact (hn.1 (List.mem_map.2 ⟨x, hx', by rw [hb, hy']⟩)).elim
        · exact nodup_born hn.2 hx' hy' hb
end

structure Gone {kk kv : Kd} (es : List MapEntry) (m : List (kk.den × kv.den)) (seen : List Nat) (done : List (kk.den × kv.den)) : Prop where
  ex : ∃ is : List Nat, is.Nodup ∧ seen = is.map (fun i => (es[i]?.map (·.born)).getD 0) ∧ done = is.filterMap (fun i => m[i]?) ∧ ∀ i ∈ is, i < es.length

theorem Gone.nil {kk kv : Kd} {es : List MapEntry} {m : List (kk.den × kv.den)} : Gone es m [] [] := ⟨[], by simp, rfl, rfl, by simp⟩

theorem Gone.next {kk kv : Kd} {es : List MapEntry} {m done : List (kk.den × kv.den)} {seen : List Nat} (h : Gone es m seen done) {ix : Nat} {e : MapEntry} {p : kk.den × kv.den} (he : es[ix]? = some e) (hp : m[ix]? = some p) (hn : e.born ∉ seen) : Gone es m (seen ++ [e.born]) (done ++ [p]) := by
  obtain ⟨is, h1, rfl, rfl, h4⟩ := h
  refine ⟨is ++ [ix], ?_, by simp [he], by simp [List.filterMap_append, hp], ?_⟩
  · rw [List.nodup_append]
    refine ⟨h1, by simp, fun x hx y hy hxy => ?_⟩
    simp only [List.mem_singleton] at hy
    subst hy; subst hxy
    exact hn (List.mem_map.2 ⟨x, hx, by simp [he]⟩)
  · intro i hi
    rcases List.mem_append.1 hi with hi | hi
    · exact h4 i hi
    · simp only [List.mem_singleton] at hi
      subst hi
      exact (List.getElem?_eq_some_iff.1 he).1

theorem NG {α : Type} : ∀ {l : List α} {i j : Nat} {x : α}, l.Nodup → l[i]? = some x → l[j]? = some x → i = j
  | [], _, _, _, _, h, _ => by simp at h
  | y :: l, 0, 0, _, _, _, _ => rfl
  | y :: l, 0, j + 1, x, hn, h, k => by
    simp at h; subst h
    exact ((List.nodup_cons.1 hn).1 (List.mem_of_getElem? (by simpa using k))).elim
  | y :: l, i + 1, 0, x, hn, h, k => by
    simp at k; subst k
    exact ((List.nodup_cons.1 hn).1 (List.mem_of_getElem? (by simpa using h))).elim
  | y :: l, i + 1, j + 1, x, hn, h, k => by
    have := NG (i := i) (j := j) (x := x) (List.nodup_cons.1 hn).2 (by simpa using h) (by simpa using k)
    rw [this]

theorem Gone.all {kk kv : Kd} {es : List MapEntry} {m done : List (kk.den × kv.den)} {seen : List Nat} (h : Gone es m seen done) (hlen : m.length = es.length) (hb : (es.map (·.born)).Nodup) (hall : ∀ e ∈ es, e.born ∈ seen) : done.Perm m := by
  obtain ⟨is, h1, rfl, rfl, h4⟩ := h
  have hin : ∀ i, i < es.length → i ∈ is := by
    intro i hi
    obtain ⟨j, hj, hjb⟩ := List.mem_map.1 (hall es[i] (by simp))
    have hjl := h4 j hj
    have h5 : es[j].born = es[i].born := by simpa [hjl] using hjb
    have : j = i := NG hb (x := es[i].born) (by simp [hjl, h5]) (by simp [hi])
    rw [← this]; exact hj
  have hperm : is.Perm (List.range es.length) := by
    rw [List.perm_ext_iff_of_nodup h1 List.nodup_range]
    intro i
    exact ⟨fun hi => by simpa using h4 i hi, fun hi => hin i (by simpa using hi)⟩
  have : (List.range es.length).filterMap (fun i => m[i]?) = m := by
    rw [← hlen]
    exact range_get m
  have h6 := hperm.filterMap (fun i => m[i]?)
  rw [this] at h6
  exact h6
  where
  range_get {α : Type} (m : List α) : (List.range m.length).filterMap (fun i => m[i]?) = m := by
    induction m with
    | nil => rfl
    | cons x m ih =>
      rw [List.length_cons, List.range_succ_eq_map]
      simp only [List.filterMap_cons, List.getElem?_cons_zero, List.filterMap_map]
      congr 1
end Go.Proofs.YtbnmhjobnepajaaGreat.M


namespace Go.Proofs.YtbnmhjobnepajaaGreat.M

section
variable {P : Program} {w : World} {G : Gh} {T T' : Tabs} {Ls : List LS} {a : Act} {N : Nat} {E : Env} {ops : Array Oper} {Q : Exit → Act → World → Prop}

theorem Holds.YX (h : Holds w G T Ls) (e bt : Nat) (K : Kd) : Holds w G T (.raw (.slice none 0 0) e bt K [] :: Ls) := by
  refine h.change (fun _ => False) (Gh.le_refl G) ⟨rfl, rfl, rfl⟩ h.free (fun b _ => ⟨rfl, rfl⟩) (fun _ hb => hb.elim) ?_ ?_ h.nd h.ex h.inj h.finj h.fex
  · intro b t i _ _ tab x cs h1 h2 h3
    exact ⟨tab, x, h1, h2, bQ (w := w) (L := Ls) (Gh.le_refl G) (fun f => fD (fun _ _ _ => rfl) _ _ _ _) (fun _ _ _ => ⟨rfl, rfl⟩) h3⟩
  · intro l hl
    rcases List.mem_cons.1 hl with rfl | h1
    · exact ⟨[], World.ownsRow_nil w 0 e K.w, trivial, trivial, fun b hb => by simp [Value.ownBlock] at hb⟩
    · exact h.loc l h1

theorem Holds.aaG (h : Holds w G T Ls) {w' : World} {j : Nat} {v v' : Value} {e bt : Nat} {K : Kd} {xs zs : List K.den} {cs : List Value} (hj : Ls[j]? = some (.raw v e bt K xs))
    (hrole : ∀ b, v.ownBlock = some b → G.role b = .loc)
    (hown : w'.ownsRow 0 e K.w v' zs.length cs) (hrr : jQ (Kr G K) K.w zs cs) (hcap : MJ v' bt)
    (henv : w'.os = w.os ∧ w'.tape = w.tape ∧ w'.output = w.output)
    (hv' : (v'.ownBlock = v.ownBlock ∧ w'.heap.size = w.heap.size ∧ ∀ b, v.ownBlock ≠ some b → w'.heap[b]? = w.heap[b]?) ∨
      (v'.ownBlock = some w.heap.size ∧ w'.heap.size = w.heap.size + 1 ∧ ∀ b, b ≠ w.heap.size → w'.heap[b]? = w.heap[b]?)) :
    ∃ G', G.le G' ∧ Holds w' G' T (Ls.set j (.raw v' e bt K zs)) ∧ ∀ b, G.role b ≠ .free → G'.role b = G.role b := by
  rcases hv' with ⟨h1, h2, h3⟩ | ⟨h1, h2, h3⟩
  · refine ⟨G, Gh.le_refl G, ?_, fun _ _ => rfl⟩
    have hno : ∀ b, G.role b ≠ .loc → v.ownBlock ≠ some b := fun b hb he => hb (hrole b he)
    refine h.change (fun b => v.ownBlock = some b) (Gh.le_refl G) henv (fun b hb => h.free b (by omega)) (fun b hb => ⟨h3 b hb, rfl⟩) (fun b hb => by unfold bJ; rw [hrole b hb]; trivial) ?_ ?_ ?_ h.ex h.inj h.finj h.fex
    · intro b t i _ _ tab x cs' k1 k2 k3
      refine ⟨tab, x, k1, k2, bQ (w := w) (L := Ls) (Gh.le_refl G) (lh hj (fun _ _ _ => rfl) (fun _ _ _ => rfl) t i) (fun b f hb => ⟨h3 b (hno b ?_), rfl⟩) k3⟩
      rcases hb with hb | ⟨p, hb⟩ <;> rw [hb] <;> simp
    · have ho : LSR w' G (.raw v' e bt K zs) := ⟨cs, hown, hrr, hcap, fun b hb => hrole b (by rw [← h1]; exact hb)⟩
      intro l hl
      cases hb : v.ownBlock with
      | none =>
        rw [hb] at h3
        rcases List.mem_or_eq_of_mem_set hl with hl | rfl
        · exact fC (Gh.le_refl G) (fun b _ => ⟨h3 b (by simp), rfl⟩) (h.loc l hl)
        · exact ho
      | some g =>
        rw [hb] at h3
        rcases ny hj hb h.nd hl with rfl | ⟨hl, hne⟩
        · exact ho
        · exact fC (Gh.le_refl G) (fun b hb' => ⟨h3 b (fun he => by simp at he; subst he; exact hne hb'), rfl⟩) (h.loc l hl)
    · refine uq hj ?_ h.nd
      simp only [LS.blk, h1]
  · have hle : G.le (G.set w.heap.size .loc) := Gh.iH h _
    have hs : ∀ b, b ≠ w.heap.size → w'.heap[b]? = w.heap[b]? ∧ (G.set w.heap.size .loc).role b = G.role b := fun b hb => ⟨h3 b hb, Gh.aW _ _ hb⟩
    have hrf : ∀ b, G.role b ≠ .free → b ≠ w.heap.size := fun b hb he => hb (h.free b (by omega))
    have ho : LSR w' (G.set w.heap.size .loc) (.raw v' e bt K zs) := ⟨cs, hown, iV (fun x cs hx => eP hle hx) hrr, hcap, fun b hb => by rw [h1] at hb; simp at hb; subst hb; exact Gh.aA _ _ _⟩
    refine ⟨_, hle, ?_, fun b hb => Gh.aW _ _ (hrf b hb)⟩
    refine h.change (fun b => b = w.heap.size) hle henv (fun b hb => ?_) (fun b hb => hs b hb) (fun b hb => ?_) ?_ ?_ ?_ ?_ ?_ ?_ ?_
    · rw [Gh.aW _ _ (by omega)]; exact h.free b (by omega)
    · subst hb; unfold bJ; rw [Gh.aA]; trivial
    · intro b t i hb1 hb2 tab x cs' k1 k2 k3
      refine ⟨tab, x, k1, k2, bQ (w := w) (L := Ls) hle (lh hj (fun _ _ _ => rfl) (fun _ _ _ => rfl) t i) (fun b f hb => hs b (hrf b ?_)) k3⟩
      rcases hb with hb | ⟨p, hb⟩ <;> rw [hb] <;> simp
    · intro l hl
      rcases List.mem_or_eq_of_mem_set hl with hl | rfl
      · exact fC hle (fun b hb' => hs b (by have := h.yj hl hb'; omega)) (h.loc l hl)
      · exact ho
    · exact yA Ls j _ _ (fun m hm b hb => h.yj hm hb) (by simpa [LS.blk] using h1) hj h.nd
    · intro t tab i k1 k2
      obtain ⟨b, hb⟩ := h.ex t tab i k1 k2
      exact ⟨b, by rw [Gh.aW _ _ (hrf b (by rw [hb]; simp))]; exact hb⟩
    · intro b b' t i k1 k2
      have n1 : b ≠ w.heap.size := fun he => by subst he; rw [Gh.aA] at k1; simp at k1
      have n2 : b' ≠ w.heap.size := fun he => by subst he; rw [Gh.aA] at k2; simp at k2
      rw [Gh.aW _ _ n1] at k1; rw [Gh.aW _ _ n2] at k2
      exact h.inj b b' t i k1 k2
    · intro b b' t i f k1 k2
      have n1 : b ≠ w.heap.size := fun he => by subst he; rw [Gh.aA] at k1; simp at k1
      have n2 : b' ≠ w.heap.size := fun he => by subst he; rw [Gh.aA] at k2; simp at k2
      rw [Gh.aW _ _ n1] at k1; rw [Gh.aW _ _ n2] at k2
      exact h.finj b b' t i f k1 k2
    · intro b t i f k1
      have n1 : b ≠ w.heap.size := fun he => by subst he; rw [Gh.aA] at k1; simp at k1
      rw [Gh.aW _ _ n1] at k1
      exact h.fex b t i f k1

def aaR (P : Program) (ops : Array Oper) (E : Env) (i : Nat) (K : Kd) (bt : Nat) : Option (En × En × TypeId × Option Nat) :=
  match ops[i]? with
  | some o => (match goes ops (look E []) o, o.op with
    | true, .call c => (match c.callee, c.args.toList, c.argTypes.toList with
      | .builtin .append, [s, x], [t, u] => (match Nat.beq t u, P.underlying t, gz (look E []) [] s, gz (look E []) [] x with
        | true, some (.slice el), some es, some ex => (match P.info? el with
          | some inf => (match qj inf K bt with
            | true => some (es, ex, el, o.dst)
            | false => none)
          | none => none)
        | _, _, _, _ => none)
      | _, _, _ => none)
    | _, _ => none)
  | none => none

theorem RG (j : Nat) {v : Value} {bt : Nat} {K : Kd} {xs ys : List K.den} {e' : TypeId} {d : Option Nat} {i : Nat} (hE : dD G N a E) (hH : Holds w G T Ls)
    (hb : aaR P ops E i K bt = some (.val v, .pl K ys, e', d)) (hj : Ls[j]? = some (.raw v e' bt K xs)) (hd : EP d N = true) (hq : (xs.length + ys.length) * bt ≤ 140737488355328)
    (k : ∀ v' a' w' G', G.le G' → dD G' N a' (L6 d (.val v') E) → Holds w' G' T (Ls.set j (.raw v' e' bt K (xs ++ ys))) → (∀ b t' i' f', G.role b = .fld t' i' f' → w'.heap[b]? = w.heap[b]?) → (∀ b, G.role b ≠ .free → G'.role b = G.role b) → ed P ops Q (i + 1) a' w') : ed P ops Q i a w := by
  unfold aaR at hb
  split at hb
  · rename_i o ho
    split at hb
    · rename_i c hg hop
      split at hb
      · rename_i s x t u hcal hargs hts
        split at hb
        · rename_i el es ex htu hu hs hx
          split at hb
          · rename_i inf hinf
            have hok : qj inf K bt = true := by
              cases hq : qj inf K bt with
              | true => rfl
              | false => rw [hq] at hb; simp at hb
            rw [hok] at hb
            simp only [Option.some.injEq, Prod.mk.injEq] at hb
            obtain ⟨rfl, rfl, rfl, rfl⟩ := hb
            have htu' := Nat.eq_of_beq_eq_true htu
            subst htu'
            have hsv : a.eval s = v := dG (aI hE) (by simp) hs
            have hv2 := dG (aI hE) (by simp) hx
            obtain ⟨b, cc, ty, nn, hxv, hnn, hbr, hcs, hone, hrow⟩ := hv2
            obtain ⟨cs, o1, o2, o3, o4⟩ := hH.loc _ (List.mem_of_getElem? hj)
            have hblk : w.heap[b]? = some (.cells cc ty (0, 0)) := by
              have := hH.block b; unfold bJ at this; rw [hbr] at this; exact this
            have hop' : o.op = .call { callee := .builtin .append, args := #[s, x], argTypes := #[t, t] } := by
              rw [hop]
              congr 1
              cases c with
              | mk ca ar at_ =>
                simp only at hcal hargs hts
                subst hcal
                congr 1
                · rw [← hargs]
                · rw [← hts]
            have hcell : ∀ jj uu, cc.toList[jj]? = some uu → w.cell? ((⟨b, 0, none⟩ : Addr).add jj) = some uu := fun jj uu hq => by
              rw [addr_add, vS hblk, Nat.zero_add]; simpa using hq
            rcases Qc (P := P) (w := w) (ty := o.type) (bt := bt) hu hinf hok o1 o3 ⟨b, 0, none⟩ ys.length nn (by simpa using hcs) hcell hone hq with ⟨v', w', hr, h2, h3, h4, h5⟩
            · have hlen : (xs ++ ys).length = xs.length + ys.length := by simp
              rw [← hlen] at h2
              obtain ⟨G', hle, hH', hro⟩ := hH.aaG hj o4 h2 (F5 o2 o1.1 hrow) h3 h4 h5
              refine pJ ho (sH (aI hE) hg) (v := v') (w' := w') ?_ (k v' _ _ G' hle ((hE.mono hle).L8 hd rfl) hH' ?_ hro)
              · simp only [execOp, hop', resolve, invoke, builtin, Sem.run_bind, Sem.run_pure, Result.andThen_ok, List.map_toArray, List.map_cons, List.map_nil, hsv, hxv, hr]
              · intro b1 t1 i1 f1 hb1
                rcases h5 with ⟨_, _, h5⟩ | ⟨_, _, h5⟩
                · exact h5 b1 (fun hq => by rw [o4 _ hq] at hb1; simp at hb1)
                · exact h5 b1 (fun hq => by rw [hH.free b1 (by omega)] at hb1; simp at hb1)
          · simp at hb
        · simp at hb
      · simp at hb
    · simp at hb
  · simp at hb
end
end Go.Proofs.YtbnmhjobnepajaaGreat.M


namespace Go.Proofs.YtbnmhjobnepajaaGreat.M

section
variable {P : Program} {w : World} {G : Gh} {T T' : Tabs} {Ls Ls' : List LS} {a : Act} {N : Nat} {E : Env} {ops : Array Oper} {Q : Exit → Act → World → Prop}

theorem NU : ∀ {xs : List (List UInt8)} {cs : List Value}, jQ (Kr G .str) 1 xs cs → cs.take xs.length = xs.map encStr
  | [], cs, _ => by simp
  | x :: xs, cs, ⟨h0, h1, h2⟩ => by
    cases cs with
    | nil => simp at h0
    | cons c cs =>
      simp only [List.take_succ_cons, List.take_zero] at h1
      have hc : c = encStr x := by
        have := h1; simp only [Kr] at this
        simpa using this
      simp only [List.length_cons, List.take_succ_cons, List.map_cons]
      rw [NU (by simpa using h2), hc]

theorem Ij : ∀ {xs : List (List UInt8)}, jQ (Kr G .str) 1 xs (xs.map encStr)
  | [] => trivial
  | x :: xs => ⟨by simp, by simp [Kr], by simpa using Ij (xs := xs)⟩

theorem Holds.WA (h : Holds w G T Ls) {j g c e bt n : Nat} {xs ts : List (List UInt8)} {os : Array Obj} (hj : Ls[j]? = some (.raw (.slice (some ⟨g, 0, none⟩) xs.length c) e bt .str xs)) (hl : ts.length = xs.length) :
    Holds (Go.Sort.grow (Go.Sort.putRow encStr (Go.Sort.ahead w n) g 0 ts.toArray) os) G T (Ls.set j (.raw (.slice (some ⟨g, 0, none⟩) xs.length c) e bt .str ts)) := by
  obtain ⟨cs, o1, o2, o3, o4⟩ := h.loc _ (List.mem_of_getElem? hj)
  obtain ⟨q1, q2, q3, q4, q5⟩ := grownBy_sorted (w := w) (g := g) (n := n) (os := os) ts.toArray
  have hrg : G.role g = .loc := o4 g rfl
  have hglt : g < w.heap.size := h.lt (by rw [hrg]; simp)
  rcases o1.2 with ⟨hn, _⟩ | ⟨g', cap, cur, hv, hb0, hb, h1, h2, h3, h4⟩
  · simp at hn
  · simp only [Value.slice.injEq, Option.some.injEq, Addr.mk.injEq, and_true, true_and] at hv
    obtain ⟨rfl, rfl⟩ := hv
    have hown := ownsRow_sorted (w := w) (n := n) (os := os) (ss := xs) (ts := ts) hl (Nat.zero_le _) hb h1 h2 (by simpa [Kd.w] using h3)
    have hsame : ∀ b, ¬ (b = g ∨ w.heap.size ≤ b) → (Go.Sort.grow (Go.Sort.putRow encStr (Go.Sort.ahead w n) g 0 ts.toArray) os).heap[b]? = w.heap[b]? := fun b hb' => q5 b (by omega) (fun he => by simp at he; exact hb' (.inl (by first | exact he | exact he.symm)))
    have hnb : ∀ b, G.role b ≠ .free → G.role b ≠ .loc → ¬ (b = g ∨ w.heap.size ≤ b) := by
      rintro b k1 k2 (rfl | hb')
      · exact k2 hrg
      · exact k1 (h.free b hb')
    refine h.change (fun b => b = g ∨ w.heap.size ≤ b) (Gh.le_refl G) ⟨q1, q2, q3⟩ (fun b hb' => h.free b (by omega)) (fun b hb' => ⟨hsame b hb', rfl⟩) ?_ ?_ ?_ ?_ h.ex h.inj h.finj h.fex
    · rintro b (rfl | hb')
      · unfold bJ; rw [hrg]; trivial
      · unfold bJ; rw [h.free b hb']; trivial
    · intro b t i _ _ tab x cs' k1 k2 k3
      refine ⟨tab, x, k1, k2, bQ (w := w) (L := Ls) (Gh.le_refl G) (lh hj (fun _ _ _ => rfl) (fun _ _ _ => rfl) t i) (fun b f hb' => ⟨hsame b (hnb b ?_ ?_), rfl⟩) k3⟩
      · rcases hb' with hb' | ⟨p, hb'⟩ <;> rw [hb'] <;> simp
      · rcases hb' with hb' | ⟨p, hb'⟩ <;> rw [hb'] <;> simp
    · intro l hl'
      rcases ny hj (b := g) rfl h.nd hl' with rfl | ⟨hl', hne⟩
      · refine ⟨ts.map encStr, ?_, Ij, o3, o4⟩
        rw [hl]; exact hown
      · refine fC (Gh.le_refl G) (fun b hb' => ⟨hsame b ?_, rfl⟩) (h.loc l hl')
        rintro (rfl | hge)
        · exact hne hb'
        · have := h.yj hl' hb'; omega
    · exact uq hj rfl h.nd

theorem Holds.Y6 (h : Holds w G T Ls) {v : Value} {e bt : Nat} {K : Kd} {xs : List K.den} (hm : .raw v e bt K xs ∈ Ls) (hd : ∀ l ∈ Ls', l ∈ Ls ∧ l.blk ≠ v.ownBlock ∨ l.blk = none ∧ l ∈ Ls) (hh : ∀ t i f, aK t i f Ls' = aK t i f Ls) (hnd : (Ls'.filterMap LS.blk).Nodup) :
    ∃ G', G.le G' ∧ VR G' (.list K) xs v ∧ Holds w G' T Ls' := by
  obtain ⟨cs, o1, o2, o3, o4⟩ := h.loc _ hm
  cases hb : v.ownBlock with
  | none =>
    refine ⟨G, Gh.le_refl G, gZ (o := .loc) ⟨cs, o1, o2, o3, fun b hb' => by rw [hb] at hb'; simp at hb'⟩, ?_⟩
    refine h.change (fun _ => False) (Gh.le_refl G) ⟨rfl, rfl, rfl⟩ h.free (fun b _ => ⟨rfl, rfl⟩) (fun _ hb => hb.elim) ?_ ?_ hnd h.ex h.inj h.finj h.fex
    · intro b t i _ _ tab x cs h1 h2 h3
      exact ⟨tab, x, h1, h2, bQ (w := w) (L := Ls) (Gh.le_refl G) (fun f => hh t i f) (fun _ _ _ => ⟨rfl, rfl⟩) h3⟩
    · intro l hl
      rcases hd l hl with h1 | h1
      · exact h.loc l h1.1
      · exact h.loc l h1.2
  | some g =>
    have hg := o4 g hb
    have hle : G.le (G.set g (.grow .loc cs)) := Gh.Ky (by rw [hg]; trivial)
    have hs : ∀ b, b ≠ g → w.heap[b]? = w.heap[b]? ∧ (G.set g (.grow .loc cs)).role b = G.role b := fun b hb => ⟨rfl, Gh.aW _ _ hb⟩
    have hrf : ∀ (r : nX) b, G.role b = r → r ≠ .loc → b ≠ g := fun r b hq hq2 he => by rw [he, hg] at hq; exact hq2 hq.symm
    refine ⟨_, hle, gZ (o := .loc) ⟨cs, o1, iV (fun x cs hx => eP hle hx) o2, o3, fun b hb' => by rw [hb] at hb'; simp at hb'; subst hb'; exact Gh.aA _ _ _⟩, ?_⟩
    refine h.change (fun b => b = g) hle ⟨rfl, rfl, rfl⟩ (fun b hb => ?_) (fun b hb => hs b hb) (fun b hb' => ?_) ?_ ?_ hnd ?_ ?_ ?_ ?_
    · have := h.free b hb
      rw [Gh.aW _ _ (hrf _ b this (by simp))]; exact this
    · subst hb'
      obtain ⟨cur, k1, k2⟩ := xx o1 hb
      unfold bJ; rw [Gh.aA]
      exact ⟨cur, e, k1, k2⟩
    · intro b t i hb1 hb2 tab x cs' k1 k2 k3
      refine ⟨tab, x, k1, k2, bQ (w := w) (L := Ls) hle (fun f => hh t i f) (fun b f hb => hs b ?_) k3⟩
      rcases hb with hb | ⟨p, hb⟩
      · exact hrf _ b hb (by simp)
      · exact hrf _ b hb (by simp)
    · intro l hl
      rcases hd l hl with ⟨h1, h2⟩ | ⟨h1, h2⟩
      · exact fC hle (fun b hb' => hs b (fun he => by subst he; rw [hb] at h2; exact h2 hb')) (h.loc l h1)
      · exact fC hle (fun b hb' => by rw [h1] at hb'; simp at hb') (h.loc l h2)
    · intro t tab i k1 k2
      obtain ⟨b, hb⟩ := h.ex t tab i k1 k2
      exact ⟨b, by rw [Gh.aW _ _ (hrf _ b hb (by simp))]; exact hb⟩
    · intro b b' t i k1 k2
      have n1 : b ≠ g := fun he => by subst he; rw [Gh.aA] at k1; simp at k1
      have n2 : b' ≠ g := fun he => by subst he; rw [Gh.aA] at k2; simp at k2
      rw [Gh.aW _ _ n1] at k1; rw [Gh.aW _ _ n2] at k2
      exact h.inj b b' t i k1 k2
    · intro b b' t i f k1 k2
      have n1 : b ≠ g := fun he => by subst he; rw [Gh.aA] at k1; simp at k1
      have n2 : b' ≠ g := fun he => by subst he; rw [Gh.aA] at k2; simp at k2
      rw [Gh.aW _ _ n1] at k1; rw [Gh.aW _ _ n2] at k2
      exact h.finj b b' t i f k1 k2
    · intro b t i f k1
      have n1 : b ≠ g := fun he => by subst he; rw [Gh.aA] at k1; simp at k1
      rw [Gh.aW _ _ n1] at k1
      exact h.fex b t i f k1

theorem dD.more (hE : dD G N a E) (s : Nat) {v : Value} {e : En} (h : lk E s = some (.val v)) (he : EnR G e v) : dD G N a ((s, e) :: E) := by
  refine ⟨hE.1, hE.2.1, fun u e2 ht => ?_⟩
  rw [dP] at ht
  by_cases hst : s = u
  · subst hst
    simp at ht; subst ht
    have := hE.2.2 s _ h
    simp only [EnR] at this
    rw [this]; exact he
  · rw [if_neg hst] at ht; exact hE.2.2 u _ ht

theorem N8 {i f : Nat} {As : List En} {R : En} {d : Option Nat} (hok : callable P f = true) (hC : ∀ args : List Value, cO (EnR G) As args → Calls P f args.toArray w (P6 G R T' Ls')) (hE : dD G N a E)
    (hc : Uu ops E i As = some (f, As, d)) (hd : EP d N = true) (hout : True)
    (k : ∀ a' w' G', G.le G' → dD G' N a' (L6 d R E) → Holds w' G' T' Ls' → ed P ops Q (i + 1) a' w') : ed P ops Q i a w := by
  unfold Uu at hc
  split at hc
  · rename_i o ho
    split at hc
    · rename_i hgo
      have hw := sH (aI hE) hgo
      split at hc
      · rename_i c hop
        split at hc
        · rename_i f' hcal
          split at hc
          · rename_i es hes
            simp only [Option.some.injEq, Prod.mk.injEq] at hc
            obtain ⟨rfl, rfl, rfl⟩ := hc
            rw [oP ho, if_pos hw]
            refine .inl ?_
            unfold Oper.wp
            have hr : (execOp a.eval o).run P w = .ok (.enter f' (c.args.toList.map a.eval).toArray) w := by
              have hargs : (c.args.map a.eval) = (c.args.toList.map a.eval).toArray := by
                apply Array.ext'; simp
              simp [execOp, hop, resolve, hcal, Act.eval, Deferred.ofValue, invoke, rH hok]
              exact hargs
            rw [hr]
            refine (hC _ (JD (aI hE) hes)).mono ?_
            intro e w' hp
            cases e with
            | returned v =>
              obtain ⟨G', hle, hv, hH'⟩ := hp
              exact k _ _ G' hle ((hE.mono hle).L8 hd hv) hH'
            | panicked c => exact hp.elim
            | outgrown => exact False.elim hp
          · simp at hc
        · simp at hc
      · simp at hc
    · simp at hc
  · simp at hc
end
end Go.Proofs.YtbnmhjobnepajaaGreat.M


namespace Go.Proofs.YtbnmhjobnepajaaGreat.M

section
variable {P : Program} {w w' : World} {G : Gh} {T T' : Tabs} {Ls : List LS}

def Gh.start (w : World) : Gh := { role := fun b => (match w.heap[b]? with | some o => .pub o | none => .free), base := w }

theorem Holds.start (w : World) (hT : ∀ t tab, T t = some tab → tab.xs.length = 0) : Holds w (Gh.start w) T [] where
  os := rfl
  tape := rfl
  output := rfl
  free := by
    intro b hb
    have : w.heap[b]? = none := Array.getElem?_eq_none hb
    simp [Gh.start, this]
  block := by
    intro b
    unfold bJ
    simp only [Gh.start]
    cases h : w.heap[b]? with
    | none => trivial
    | some o => rfl
  ex := by intro t tab i h1 h2; rw [hT t tab h1] at h2; omega
  inj := by
    intro b b' t i h1
    simp only [Gh.start] at h1
    split at h1 <;> simp at h1
  finj := by
    intro b b' t i f h1
    simp only [Gh.start] at h1
    split at h1 <;> simp at h1
  fex := by
    intro b t i f h1
    simp only [Gh.start] at h1
    split at h1 <;> simp at h1
  loc := by simp
  nd := by simp

theorem Holds.kept (h : Holds w' G T Ls) (hle : (Gh.start w).le G) : (w'.os = w.os ∧ w'.tape = w.tape ∧ w'.output = w.output) ∧ w.heap.size ≤ w'.heap.size ∧ ∀ b, b < w.heap.size → w'.heap[b]? = w.heap[b]? := by
  have hb : ∀ b, b < w.heap.size → w'.heap[b]? = w.heap[b]? := by
    intro b hlt
    have hs : w.heap[b]? = some w.heap[b] := by simp
    have h1 := hle.2 b
    simp only [Gh.start, hs] at h1
    have h2 := h.block b
    unfold bJ at h2
    rw [h1] at h2
    rw [hs]; exact h2
  refine ⟨⟨by rw [h.os, hle.1]; rfl, by rw [h.tape, hle.1]; rfl, by rw [h.output, hle.1]; rfl⟩, ?_, hb⟩
  rcases Nat.lt_or_ge w'.heap.size w.heap.size with hlt | hge
  · have := hb _ hlt
    rw [Array.getElem?_eq_none (Nat.le_refl _)] at this
    simp [hlt] at this
  · exact hge

end
end Go.Proofs.YtbnmhjobnepajaaGreat.M


namespace Go.Proofs.YtbnmhjobnepajaaGreat.M

def vI : Nat → Kd → Bool
  | 0, .unit => true
  | n + 1, .pair (.int .u8) b => vI n b
  | _, _ => false

def xA : (k : Kd) → k.den → Nat → Int → k.den
  | .pair (.int .u8) _, x, 0, z => (z, x.2)
  | .pair (.int .u8) b, x, n + 1, z => (x.1, xA b x.2 n z)
  | _, x, _, _ => x

def yH : (k : Kd) → k.den → List Int
  | .pair (.int .u8) b, x => x.1 :: yH b x.2
  | _, _ => []

theorem Rw : ∀ {n : Nat} {k : Kd} {x : k.den} {off : Nat} {z : Int}, vI n k = true → off < n → IM k x off (.int .u8) z = some (xA k x off z)
  | 0, _, _, _, _, _, h => by omega
  | n + 1, k, x, off, z, hk, h => by
    unfold vI at hk
    split at hk
    · rename_i h0; cases h0
    · rename_i m b h0
      cases h0
      cases off with
      | zero => simp [IM, xA, Kd.w, Nat.blt, Nat.ble]
      | succ o =>
        have ih := Rw (x := x.2) (off := o) (z := z) hk (by omega)
        simp [IM, xA, Kd.w, Nat.blt, Nat.ble, ih]
    · cases hk

theorem Xe {G : Gh} : ∀ {n : Nat} {k : Kd} {x : k.den} {cs : List Value}, vI n k = true → Kr G k x cs → cs = (yH k x).map (Value.int .u8) ∧ (yH k x).length = n
  | 0, k, x, cs, hk, h => by
    cases k <;> simp [vI] at hk
    simp only [Kr] at h
    subst h
    exact ⟨rfl, rfl⟩
  | n + 1, k, x, cs, hk, h => by
    unfold vI at hk
    split at hk
    · rename_i h0; cases h0
    · rename_i m b h0
      cases h0
      simp only [Kr] at h
      obtain ⟨c1, c2, rfl, rfl, h2⟩ := h
      obtain ⟨e1, e2⟩ := Xe (x := x.2) hk h2
      exact ⟨by simp [yH, ← e1], by simp [yH, e2]⟩
    · cases hk

end Go.Proofs.YtbnmhjobnepajaaGreat.M


namespace Go.Proofs.YtbnmhjobnepajaaGreat.M

structure KL where
  k : Kd
  xs : List k.den

def wB : (fs : List Fk) → az fs → Nat → Nat → Option (Nat × Nat × Nat × KL)
  | [], _, _, _ => none
  | .own e bt k :: r, x, 0, f => some (f, e, bt, ⟨k, x.1⟩)
  | .own _ _ _ :: r, x, o + 1, f => wB r x.2 o (f + 1)
  | .p k :: r, x, o, f => (match Nat.ble k.w o with
    | true => wB r x.2 (o - k.w) (f + 1)
    | false => none)
  | .omap _ _ :: r, x, 0, f => none
  | .omap _ _ :: r, x, o + 1, f => wB r x.2 o (f + 1)

def Mc : (fs : List Fk) → az fs → Nat → (k : Kd) → List k.den → Option (az fs)
  | [], _, _, _, _ => none
  | .own e bt k :: r, x, 0, k', ys => if h : k' = k then some (h ▸ ys, x.2) else none
  | .own _ _ _ :: r, x, o + 1, k', ys => (match Mc r x.2 o k' ys with
    | some y => some (x.1, y)
    | none => none)
  | .p k :: r, x, o, k', ys => (match Nat.ble k.w o with
    | true => (match Mc r x.2 (o - k.w) k' ys with
      | some y => some (x.1, y)
      | none => none)
    | false => none)
  | .omap _ _ :: r, x, 0, k', ys => none
  | .omap _ _ :: r, x, o + 1, k', ys => (match Mc r x.2 o k' ys with
    | some y => some (x.1, y)
    | none => none)

section
variable {w w' : World} {G G' : Gh} {T T' : Tabs} {L L' Ls : List LS}

theorem Gm (hle : G.le G') {t i : Nat} : ∀ {f : Nat} {fs : List Fk} {x : az fs} {cs : List Value}, (∀ f', f ≤ f' → aK t i f' L' = aK t i f' L) →
    (∀ b f', f ≤ f' → (G.role b = .fld t i f' ∨ ∃ p, G.role b = .grow (.fld t i f') p) → w'.heap[b]? = w.heap[b]? ∧ G'.role b = G.role b) → pR w G L t i f fs x cs → pR w' G' L' t i f fs x cs
  | _, [], _, _, _, _, h => h
  | f, fk :: r, x, cs, hL, hs, ⟨c1, c2, hc, h1, h2⟩ => ⟨c1, c2, hc, by rw [hL f (Nat.le_refl _)]; exact uH hle (fun b hb => hs b f (Nat.le_refl _) hb) h1,
      Gm hle (fun f' hf => hL f' (by omega)) (fun b f' hf hb => hs b f' (by omega) hb) h2⟩

theorem FV {t i : Nat} : ∀ {fs : List Fk} {x : az fs} {off f g e bt : Nat} {q : KL} {cs : List Value}, wB fs x off f = some (g, e, bt, q) → pR w G L t i f fs x cs → aK t i g L = none →
    f ≤ g ∧ ∃ v, cs[off]? = some v ∧ IL G w (.fld t i g) e bt q.k q.xs v ∧
      ∀ {G' : Gh} {L' : List LS}, G.le G' → (∀ b, (∀ p, G.role b ≠ .grow (.fld t i g) p) → G'.role b = G.role b) → (∀ f', f' ≠ g → aK t i f' L' = aK t i f' L) → aK t i g L' = some v → pR w G' L' t i f fs x cs
  | [], _, _, _, _, _, _, _, _, h, _, _ => by simp [wB] at h
  | .own e0 bt0 k0 :: r, x, 0, f, g, e, bt, q, cs, h, ho, hn => by
    simp only [wB, Option.some.injEq, Prod.mk.injEq] at h
    obtain ⟨rfl, rfl, rfl, rfl⟩ := h
    obtain ⟨c1, c2, rfl, h1, h2⟩ := ho
    obtain ⟨v, rfl, hv⟩ := zV hn h1
    refine ⟨Nat.le_refl _, v, by simp, hv, fun {G'} {L'} hle hr hL hg => ?_⟩
    refine ⟨[v], c2, rfl, ?_, ?_⟩
    · rw [hg]; exact rfl
    · refine Gm hle (fun f' hf => hL f' (by omega)) (fun b f' hf hb => ⟨rfl, hr b (fun p hp => ?_)⟩) h2
      rcases hb with hb | ⟨p', hb⟩ <;> rw [hb] at hp <;> simp at hp
      omega
  | .own e0 bt0 k0 :: r, x, o + 1, f, g, e, bt, q, cs, h, ho, hn => by
    simp only [wB] at h
    obtain ⟨c1, c2, rfl, h1, h2⟩ := ho
    have hl : c1.length = 1 := rE h1
    obtain ⟨hfg, v, k1, k2, k3⟩ := FV h h2 hn
    refine ⟨by omega, v, by rw [List.getElem?_append_right (by omega)]; rw [hl]; simpa using k1, k2, fun {G'} {L'} hle hr hL hg => ?_⟩
    refine ⟨c1, c2, rfl, ?_, k3 hle hr hL hg⟩
    rw [hL f (by omega)]
    refine uH hle (fun b hb => ⟨rfl, hr b (fun p hp => ?_)⟩) h1
    rcases hb with hb | ⟨p', hb⟩ <;> rw [hb] at hp <;> simp at hp
    omega
  | .p k0 :: r, x, o, f, g, e, bt, q, cs, h, ho, hn => by
    simp only [wB] at h
    split at h
    · rename_i hb
      have hge : k0.w ≤ o := Nat.le_of_ble_eq_true hb
      obtain ⟨c1, c2, rfl, h1, h2⟩ := ho
      have hl : c1.length = k0.w := rE h1
      obtain ⟨hfg, v, k1, k2, k3⟩ := FV h h2 hn
      refine ⟨by omega, v, by rw [List.getElem?_append_right (by omega)]; rw [hl]; exact k1, k2, fun {G'} {L'} hle hr hL hg => ?_⟩
      refine ⟨c1, c2, rfl, eP hle h1, k3 hle hr hL hg⟩
    · cases h
  | .omap kk kv :: r, x, 0, f, g, e, bt, q, cs, h, ho, hn => by simp [wB] at h
  | .omap kk kv :: r, x, o + 1, f, g, e, bt, q, cs, h, ho, hn => by
    simp only [wB] at h
    obtain ⟨c1, c2, rfl, h1, h2⟩ := ho
    have hl : c1.length = 1 := rE h1
    obtain ⟨hfg, v, k1, k2, k3⟩ := FV h h2 hn
    refine ⟨by omega, v, by rw [List.getElem?_append_right (by omega)]; rw [hl]; simpa using k1, k2, fun {G'} {L'} hle hr hL hg => ?_⟩
    refine ⟨c1, c2, rfl, ?_, k3 hle hr hL hg⟩
    rw [hL f (by omega)]
    refine uH hle (fun b hb => ⟨rfl, hr b (fun p hp => ?_)⟩) h1
    rcases hb with hb | ⟨p', hb⟩ <;> rw [hb] at hp <;> simp at hp
    omega

theorem I7 {t i : Nat} : ∀ {fs : List Fk} {x x' : az fs} {off f g e bt : Nat} {q : KL} {ys : List q.k.den} {cs : List Value}, wB fs x off f = some (g, e, bt, q) → Mc fs x off q.k ys = some x' → pR w G L t i f fs x cs →
    f ≤ g ∧ off < cs.length ∧ ∀ {w' : World} {G' : Gh} {L' : List LS} {v' : Value}, G.le G' → IL G' w' (.fld t i g) e bt q.k ys v' → aK t i g L' = none → (∀ f', f' ≠ g → aK t i f' L' = aK t i f' L) →
      (∀ b f', f' ≠ g → (G.role b = .fld t i f' ∨ ∃ p, G.role b = .grow (.fld t i f') p) → w'.heap[b]? = w.heap[b]? ∧ G'.role b = G.role b) → pR w' G' L' t i f fs x' (cs.set off v')
  | [], _, _, _, _, _, _, _, _, _, _, h, _, _ => by simp [wB] at h
  | .own e0 bt0 k0 :: r, x, x', 0, f, g, e, bt, q, ys, cs, h, hs, ho => by
    simp only [wB, Option.some.injEq, Prod.mk.injEq] at h
    obtain ⟨rfl, rfl, rfl, rfl⟩ := h
    simp only [Mc, dif_pos, Option.some.injEq] at hs
    subst hs
    obtain ⟨c1, c2, rfl, h1, h2⟩ := ho
    have hl : c1.length = 1 := rE h1
    refine ⟨Nat.le_refl _, by simp; omega, fun {w'} {G'} {L'} {v'} hle hv hg hL hr => ?_⟩
    obtain ⟨u, rfl⟩ : ∃ u, c1 = [u] := by
      cases c1 with
      | nil => simp at hl
      | cons u r' => cases r' with | nil => exact ⟨u, rfl⟩ | cons _ _ => simp at hl
    refine ⟨[v'], c2, rfl, ?_, ?_⟩
    · rw [hg]; exact ⟨v', rfl, hv⟩
    · exact Gm hle (fun f' hf => hL f' (by omega)) (fun b f' hf hb => hr b f' (by omega) hb) h2
  | .own e0 bt0 k0 :: r, x, x', o + 1, f, g, e, bt, q, ys, cs, h, hs, ho => by
    simp only [wB] at h
    simp only [Mc] at hs
    split at hs
    · rename_i y hy
      simp only [Option.some.injEq] at hs; subst hs
      obtain ⟨c1, c2, rfl, h1, h2⟩ := ho
      have hl : c1.length = 1 := rE h1
      obtain ⟨hfg, hlt, k3⟩ := I7 h hy h2
      refine ⟨by omega, by simp; omega, fun {w'} {G'} {L'} {v'} hle hv hg hL hr => ?_⟩
      refine ⟨c1, c2.set o v', by rw [List.set_append_right _ _ (by omega)]; rw [hl]; rfl, ?_, k3 hle hv hg hL hr⟩
      rw [hL f (by omega)]
      exact uH hle (fun b hb => hr b f (by omega) hb) h1
    · cases hs
  | .p k0 :: r, x, x', o, f, g, e, bt, q, ys, cs, h, hs, ho => by
    simp only [wB] at h
    simp only [Mc] at hs
    split at h
    · rename_i hb
      rw [hb] at hs
      simp only at hs
      have hge : k0.w ≤ o := Nat.le_of_ble_eq_true hb
      split at hs
      · rename_i y hy
        simp only [Option.some.injEq] at hs; subst hs
        obtain ⟨c1, c2, rfl, h1, h2⟩ := ho
        have hl : c1.length = k0.w := rE h1
        obtain ⟨hfg, hlt, k3⟩ := I7 h hy h2
        refine ⟨by omega, by simp; omega, fun {w'} {G'} {L'} {v'} hle hv hg hL hr => ?_⟩
        exact ⟨c1, c2.set (o - k0.w) v', by rw [List.set_append_right _ _ (by omega), hl], eP hle h1, k3 hle hv hg hL hr⟩
      · cases hs
    · cases h
  | .omap kk kv :: r, x, x', 0, f, g, e, bt, q, ys, cs, h, hs, ho => by simp [wB] at h
  | .omap kk kv :: r, x, x', o + 1, f, g, e, bt, q, ys, cs, h, hs, ho => by
    simp only [wB] at h
    simp only [Mc] at hs
    split at hs
    · rename_i y hy
      simp only [Option.some.injEq] at hs; subst hs
      obtain ⟨c1, c2, rfl, h1, h2⟩ := ho
      have hl : c1.length = 1 := rE h1
      obtain ⟨hfg, hlt, k3⟩ := I7 h hy h2
      refine ⟨by omega, by simp; omega, fun {w'} {G'} {L'} {v'} hle hv hg hL hr => ?_⟩
      refine ⟨c1, c2.set o v', by rw [List.set_append_right _ _ (by omega)]; rw [hl]; rfl, ?_, k3 hle hv hg hL hr⟩
      rw [hL f (by omega)]
      exact uH hle (fun b hb => hr b f (by omega) hb) h1
    · cases hs

def Gh.own (G : Gh) (o : Option Nat) (r : nX) : Gh := { G with role := fun b => if o = some b then r else G.role b }

theorem Gh.YC {o : Option Nat} {r : nX} (h : ∀ b, o = some b → (G.role b).le r) : G.le (G.own o r) := by
  refine ⟨rfl, fun b => ?_⟩
  simp only [Gh.own]
  split
  · rename_i hb; exact h b hb
  · exact nX.le_refl _

theorem Gh.eX {o : Option Nat} {r : nX} {b : Nat} (h : o ≠ some b) : (G.own o r).role b = G.role b := by simp [Gh.own, h]
theorem Gh.kV {o : Option Nat} {r : nX} {b : Nat} (h : o = some b) : (G.own o r).role b = r := by simp [Gh.own, h]

theorem H5 (t i g : Nat) (v : Value) (L : List LS) (t' i' f' : Nat) : aK t' i' f' (.hole t i g v :: L) = if t = t' ∧ i = i' ∧ g = f' then some v else aK t' i' f' L := by
  simp only [aK]

theorem Holds.take (h : Holds w G T Ls) {b t i off : Nat} {fs : List Fk} {x : az fs} {g e bt : Nat} {q : KL} (hr : G.role b = .obj t i) (ho : og T t i fs x) (hown : wB fs x off 0 = some (g, e, bt, q)) (hN : aK t i g Ls = none) :
    ∃ v G' ce ty, w.heap[b]? = some (.cells ce ty (0, 0)) ∧ ce[off]? = some v ∧ G.le G' ∧ VR G' (.list q.k) q.xs v ∧ Holds w G' T (.tk v e bt q.k q.xs :: .hole t i g v :: Ls) := by
  obtain ⟨ce, ty, hh, hob⟩ := h.at hr ho
  obtain ⟨_, v, hv0, hv, hk⟩ := FV hown hob hN
  obtain ⟨cs, o1, o2, o3, o4⟩ := id hv
  have hblk : ∀ c, v.ownBlock = some c → G.role c = .grow (.fld t i g) cs := o4
  have hle : G.le (G.own v.ownBlock (.grow .loc cs)) := Gh.YC (fun c hc => by rw [hblk c hc]; exact ⟨.loc, [], by simp⟩)
  have hL : ∀ t' i' f', aK t' i' f' (.tk v e bt q.k q.xs :: .hole t i g v :: Ls) = if t = t' ∧ i = i' ∧ g = f' then some v else aK t' i' f' Ls := fun t' i' f' => by
    rw [fD (fun _ _ _ => rfl), H5]
  have hnf : ∀ l ∈ Ls, ∀ c, l.blk = some c → v.ownBlock ≠ some c := by
    intro l hl c hc hvc
    have h1 := hblk c hvc
    rcases h.BJ hl hc with h2 | ⟨p, h2⟩ <;> rw [h1] at h2 <;> simp at h2
  have hv' : IL (G.own v.ownBlock (.grow .loc cs)) w .loc e bt q.k q.xs v := ⟨cs, o1, iV (fun x cs hx => eP hle hx) o2, o3, fun c hc => Gh.kV hc⟩
  refine ⟨v, G.own v.ownBlock (.grow .loc cs), ce, ty, hh, by rw [← Array.getElem?_toList]; exact hv0, hle, gZ hv', ?_⟩
  have hbo : v.ownBlock ≠ some b := fun hvc => by rw [hblk b hvc] at hr; cases hr
  refine h.change (fun c => v.ownBlock = some c ∨ c = b) hle ⟨rfl, rfl, rfl⟩ ?_ (fun c hc => ⟨rfl, Gh.eX (fun e => hc (.inl e))⟩) ?_ ?_ ?_ ?_ ?_ ?_ ?_ ?_
  · intro c hc
    rw [Gh.eX (fun hvc => by have := h.free c hc; rw [hblk c hvc] at this; cases this)]
    exact h.free c hc
  · intro c hc
    rcases hc with hc | rfl
    · have := h.block c
      unfold bJ at this ⊢
      rw [hblk c hc] at this
      rw [Gh.kV hc]
      exact this
    · unfold bJ
      rw [Gh.eX hbo, hr]
      obtain ⟨xs0, q1, q2⟩ := ho
      refine ⟨_, x, ce, ty, q1, q2, hh, ?_⟩
      refine hk hle (fun c hc => Gh.eX (fun hvc => hc cs (hblk c hvc))) (fun f' hf => ?_) ?_
      · rw [hL, if_neg (fun e => hf e.2.2.symm)]
      · rw [hL, if_pos ⟨rfl, rfl, rfl⟩]
  · intro c t' i' hc hrc tab y cs' h1 h2 h3
    by_cases he : t = t' ∧ i = i'
    · obtain ⟨rfl, rfl⟩ := he
      exact absurd (.inr (h.inj c b t i hrc hr)) hc
    · refine ⟨tab, y, h1, h2, ?_⟩
      refine bQ (w := w) hle (fun f => ?_) (fun b2 f hb2 => ⟨rfl, Gh.eX (fun hvc => ?_)⟩) h3
      · rw [hL, if_neg (fun e => he ⟨e.1, e.2.1⟩)]
      · rw [hblk b2 hvc] at hb2
        rcases hb2 with hb2 | ⟨p, hb2⟩ <;> simp at hb2
        exact he ⟨hb2.1.1, hb2.1.2.1⟩
  · intro l hl
    rcases List.mem_cons.1 hl with rfl | hl
    · exact hv'
    rcases List.mem_cons.1 hl with rfl | hl
    · trivial
    · exact fC hle (fun c hc => ⟨rfl, Gh.eX (hnf l hl c hc)⟩) (h.loc l hl)
  · have hnd := h.nd
    have e1 : ((.hole t i g v :: Ls : List LS).filterMap LS.blk) = Ls.filterMap LS.blk := List.filterMap_cons_none rfl
    cases hb : v.ownBlock with
    | none =>
      rw [List.filterMap_cons_none (show LS.blk (.tk v e bt q.k q.xs) = none from hb), e1]; exact hnd
    | some c =>
      rw [List.filterMap_cons_some (show LS.blk (.tk v e bt q.k q.xs) = some c from hb), e1, List.nodup_cons]
      refine ⟨fun hm => ?_, hnd⟩
      obtain ⟨l, hl, hlc⟩ := List.mem_filterMap.1 hm
      exact hnf l hl c hlc hb
  · intro t' tab i' h1 h2
    obtain ⟨c, hc⟩ := h.ex t' tab i' h1 h2
    exact ⟨c, by rw [Gh.eX (fun hvc => by rw [hblk c hvc] at hc; cases hc)]; exact hc⟩
  · intro c c' t' i' h1 h2
    have n1 : v.ownBlock ≠ some c := fun hvc => by rw [Gh.kV hvc] at h1; cases h1
    have n2 : v.ownBlock ≠ some c' := fun hvc => by rw [Gh.kV hvc] at h2; cases h2
    rw [Gh.eX n1] at h1
    rw [Gh.eX n2] at h2
    exact h.inj c c' t' i' h1 h2
  · intro c c' t' i' f' h1 h2
    have n1 : v.ownBlock ≠ some c := fun hvc => by rw [Gh.kV hvc] at h1; cases h1
    have n2 : v.ownBlock ≠ some c' := fun hvc => by rw [Gh.kV hvc] at h2; cases h2
    rw [Gh.eX n1] at h1
    rw [Gh.eX n2] at h2
    exact h.finj c c' t' i' f' h1 h2
  · intro c t' i' f' h1
    have n1 : v.ownBlock ≠ some c := fun hvc => by rw [Gh.kV hvc] at h1; cases h1
    rw [Gh.eX n1] at h1
    exact h.fex c t' i' f' h1

theorem Ub {cs : List Value} {v : Value} {off : Nat} (h : off < cs.length) : splice cs [v] off = cs.set off v := by
  unfold splice
  rw [List.set_eq_take_append_cons_drop, if_pos h]
  simp

theorem Holds.L8 (h : Holds w G T Ls) {b t i off : Nat} {fs : List Fk} {x x' : az fs} {g e bt : Nat} {q : KL} {ys : List q.k.den} {v' : Value} {ce : Array Value} {ty : TypeId} (hr : G.role b = .obj t i) (hh : w.heap[b]? = some (.cells ce ty (0, 0))) (ho : og T t i fs x)
    (hown : wB fs x off 0 = some (g, e, bt, q)) (hset : Mc fs x off q.k ys = some x') (hT : Ip T T' t i fs x') {L2 : List LS} (hm : .tk v' e bt q.k ys ∈ Ls) (hL2 : ∀ l ∈ L2, l ∈ Ls ∧ (∀ c, l.blk = some c → v'.ownBlock ≠ some c)) (hnd : (L2.filterMap LS.blk).Nodup)
    (hh1 : aK t i g L2 = none) (hh2 : ∀ t' i' f', ¬ (t = t' ∧ i = i' ∧ g = f') → aK t' i' f' L2 = aK t' i' f' Ls) :
    off < ce.size ∧ ∃ G', G.le G' ∧ Holds (w.setRow b (splice ce.toList [v'] off).toArray) G' T' L2 := by
  obtain ⟨ce', ty', hh', hob⟩ := h.at hr ho
  rw [hh] at hh'
  simp only [Option.some.injEq, Obj.cells.injEq] at hh'
  obtain ⟨rfl, rfl, _⟩ := hh'
  obtain ⟨_, hlt, hk⟩ := I7 hown hset hob
  refine ⟨by rw [← Array.length_toList]; exact hlt, ?_⟩
  obtain ⟨cs, o1, o2, o3, o4⟩ := h.loc _ hm
  have hle : G.le (G.own v'.ownBlock (.grow (.fld t i g) cs)) := Gh.YC (fun c hc => by rw [o4 c hc]; exact ⟨.fld t i g, [], by simp⟩)
  have hbo : v'.ownBlock ≠ some b := fun hvc => by rw [o4 b hvc] at hr; cases hr
  have hsame : ∀ c, c ≠ b → (w.setRow b (splice ce.toList [v'] off).toArray).heap[c]? = w.heap[c]? := fun c hc => setRow_other w b c _ hc
  have hv' : IL (G.own v'.ownBlock (.grow (.fld t i g) cs)) (w.setRow b (splice ce.toList [v'] off).toArray) (.fld t i g) e bt q.k ys v' :=
    ⟨cs, zM o1 (fun c hc => hsame c (fun e => hbo (by rw [← e]; exact hc))), iV (fun x cs hx => eP hle hx) o2, o3, fun c hc => Gh.kV hc⟩
  obtain ⟨⟨xs, hT1, hT2⟩, hT3⟩ := hT
  obtain ⟨xs0, ho1, ho2⟩ := ho
  rw [hT1] at ho1
  simp only [Option.some.injEq, Tab.mk.injEq, heq_eq_eq, true_and] at ho1
  subst ho1
  have hltx := (List.getElem?_eq_some_iff.1 ho2).1
  refine ⟨_, hle, ?_⟩
  refine h.change (fun c => v'.ownBlock = some c ∨ c = b) hle ⟨rfl, rfl, rfl⟩ ?_ (fun c hc => ⟨hsame c (fun e => hc (.inr e)), Gh.eX (fun e => hc (.inl e))⟩) ?_ ?_ ?_ hnd ?_ ?_ ?_ ?_
  · intro c hc
    simp at hc
    rw [Gh.eX (fun hvc => by have := h.free c hc; rw [o4 c hvc] at this; cases this)]
    exact h.free c hc
  · intro c hc
    rcases hc with hc | rfl
    · have := h.block c
      unfold bJ at this ⊢
      rw [o4 c hc] at this
      rw [Gh.kV hc, hsame c (fun e => hbo (by rw [← e]; exact hc))]
      exact this
    · unfold bJ
      rw [Gh.eX hbo, hr]
      refine ⟨_, x', _, ty, hT2, by simp [hltx], setRow_heap w c ce _ ty _ hh, ?_⟩
      have hk' := hk (L' := L2) hle hv' hh1 (fun f' hf => hh2 _ _ _ (fun e => hf e.2.2.symm)) (fun c2 f' hf hc2 => ⟨hsame c2 (fun e => by
        rw [e, hr] at hc2; rcases hc2 with hc2 | ⟨p, hc2⟩ <;> cases hc2), Gh.eX (fun hvc => by
        rw [o4 c2 hvc] at hc2; rcases hc2 with hc2 | ⟨p, hc2⟩ <;> simp at hc2)⟩)
      have e0 : (splice ce.toList [v'] off).toArray.toList = ce.toList.set off v' := by rw [Ub hlt]
      rw [e0]
      exact hk'
  · intro c t' i' hc hrc tab y cs' h1 h2 h3
    by_cases he : t = t' ∧ i = i'
    · obtain ⟨rfl, rfl⟩ := he
      exact absurd (.inr (h.inj c b t i hrc hr)) hc
    · have h3' : pR (w.setRow b (splice ce.toList [v'] off).toArray) (G.own v'.ownBlock (.grow (.fld t i g) cs)) L2 t' i' 0 tab.fs y cs' := by
        refine bQ (w := w) hle (fun f => hh2 _ _ _ (fun e => he ⟨e.1, e.2.1⟩)) (fun b2 f hb2 => ⟨hsame b2 (fun e => ?_), Gh.eX (fun hvc => ?_)⟩) h3
        · subst e; rcases hb2 with hb2 | ⟨p, hb2⟩ <;> rw [hr] at hb2 <;> cases hb2
        · rw [o4 b2 hvc] at hb2; rcases hb2 with hb2 | ⟨p, hb2⟩ <;> simp at hb2
      by_cases ht : t' = t
      · subst ht
        rw [hT1] at h1
        simp only [Option.some.injEq] at h1; subst h1
        refine ⟨⟨fs, xs.set i x'⟩, y, hT2, ?_, h3'⟩
        show (xs.set i x')[i']? = some y
        rw [List.getElem?_set_ne (fun e => he ⟨rfl, e⟩)]; exact h2
      · exact ⟨tab, y, by rw [hT3 t' ht]; exact h1, h2, h3'⟩
  · intro l hl
    obtain ⟨hl1, hl2⟩ := hL2 l hl
    refine fC hle (fun c hc => ⟨hsame c (fun e => ?_), Gh.eX (hl2 c hc)⟩) (h.loc l hl1)
    subst e
    rcases h.BJ hl1 hc with h2 | ⟨p, h2⟩ <;> rw [hr] at h2 <;> cases h2
  · intro t' tab i' h1 h2
    have key : ∃ c, G.role c = .obj t' i' := by
      by_cases ht : t' = t
      · subst ht
        rw [hT2] at h1
        simp only [Option.some.injEq] at h1; subst h1
        exact h.ex _ _ i' hT1 (by simpa using h2)
      · rw [hT3 t' ht] at h1
        exact h.ex t' tab i' h1 h2
    obtain ⟨c, hc⟩ := key
    exact ⟨c, by rw [Gh.eX (fun hvc => by rw [o4 c hvc] at hc; cases hc)]; exact hc⟩
  · intro c c' t' i' h1 h2
    have n1 : v'.ownBlock ≠ some c := fun hvc => by rw [Gh.kV hvc] at h1; cases h1
    have n2 : v'.ownBlock ≠ some c' := fun hvc => by rw [Gh.kV hvc] at h2; cases h2
    rw [Gh.eX n1] at h1
    rw [Gh.eX n2] at h2
    exact h.inj c c' t' i' h1 h2
  · intro c c' t' i' f' h1 h2
    have n1 : v'.ownBlock ≠ some c := fun hvc => by rw [Gh.kV hvc] at h1; cases h1
    have n2 : v'.ownBlock ≠ some c' := fun hvc => by rw [Gh.kV hvc] at h2; cases h2
    rw [Gh.eX n1] at h1
    rw [Gh.eX n2] at h2
    exact h.finj c c' t' i' f' h1 h2
  · intro c t' i' f' h1
    have n1 : v'.ownBlock ≠ some c := fun hvc => by rw [Gh.kV hvc] at h1; cases h1
    rw [Gh.eX n1] at h1
    obtain ⟨tab, k1, k2⟩ := h.fex c t' i' f' h1
    by_cases ht : t' = t
    · subst ht
      rw [hT1] at k1
      simp only [Option.some.injEq] at k1; subst k1
      exact ⟨_, hT2, by simpa using k2⟩
    · exact ⟨tab, by rw [hT3 t' ht]; exact k1, k2⟩
end

section
variable {P : Program} {w : World} {G : Gh} {T T' : Tabs} {Ls : List LS} {a : Act} {N : Nat} {E : Env} {ops : Array Oper} {Q : Exit → Act → World → Prop}

theorem PR {ty : TypeId} {b off : Nat} {ce : Array Value} {tb : TypeId} {fr : Nat × Nat} {v : Value} (h1 : fA P ty = some 1) (h2 : AB P ty = some false)
    (hh : w.heap[b]? = some (.cells ce tb fr)) (h : ce[off]? = some v) : (Instr.loadAt ty (.pointer (some ⟨b, off, none⟩))).run P w = .ok v w := by
  have hc : w.cell? ⟨b, off, none⟩ = some v := by rw [vS hh]; exact h
  simp [Instr.loadAt, Instr.sureAddr, loadVar, wL h2, hc]

def abP (P : Program) (ops : Array Oper) (E : Env) (i : Nat) : Option (Nat × Nat × Nat × Option Nat) :=
  match ops[i]? with
  | some o => (match goes ops (look E []) o, o.op with
    | true, .load ty x => (match fA P ty, AB P ty, gz (look E []) [] x with
      | some 1, some false, some (.fldA t j off) => some (t, j, off, o.dst)
      | _, _, _ => none)
    | _, _ => none)
  | none => none

theorem VG {v : Value} {e bt : Nat} {k : Kd} {ys : List k.den} {L0 L2 : List LS} (hnd : ((.tk v e bt k ys :: L0 : List LS).filterMap LS.blk).Nodup) (hs : L2.Sublist L0) : (L2.filterMap LS.blk).Nodup ∧ ∀ l ∈ L2, ∀ c, l.blk = some c → v.ownBlock ≠ some c := by
  have h0 : (L0.filterMap LS.blk).Nodup := by
    cases hb : v.ownBlock with
    | none => rwa [List.filterMap_cons_none (show LS.blk (.tk v e bt k ys) = none from hb)] at hnd
    | some b => rw [List.filterMap_cons_some (show LS.blk (.tk v e bt k ys) = some b from hb)] at hnd; exact (List.nodup_cons.1 hnd).2
  refine ⟨(hs.filterMap _).nodup h0, fun l hl c hc hvc => ?_⟩
  rw [List.filterMap_cons_some (show LS.blk (.tk v e bt k ys) = some c from hvc)] at hnd
  exact (List.nodup_cons.1 hnd).1 (List.mem_filterMap.2 ⟨l, hs.subset hl, hc⟩)

theorem KQ (G : Gh) (w : World) (o : Own) (e bt : Nat) (k : Kd) : IL G w o e bt k [] (.slice none 0 0) :=
  ⟨[], World.ownsRow_nil w 0 e k.w, trivial, trivial, fun b hb => by simp [Value.ownBlock] at hb⟩

end
end Go.Proofs.YtbnmhjobnepajaaGreat.M


namespace Go.Proofs.YtbnmhjobnepajaaGreat.M

section
variable {P : Program} {w : World} {G : Gh} {T T' : Tabs} {Ls Ls' : List LS} {a : Act} {N : Nat} {E : Env} {ops : Array Oper} {Q : Exit → Act → World → Prop}

theorem NT : ∀ {xs : List Int} {cs : List Value}, jQ (Kr G .i) 1 xs cs → cs.take xs.length = xs.map (Value.int .i64)
  | [], cs, _ => by simp
  | x :: xs, cs, ⟨h0, h1, h2⟩ => by
    cases cs with
    | nil => simp at h0
    | cons c cs =>
      simp only [List.take_succ_cons, List.take_zero] at h1
      have hc : c = (Value.int .i64 x) := by
        have := h1; simp only [Kr] at this
        simpa using this
      simp only [List.length_cons, List.take_succ_cons, List.map_cons]
      rw [NT (by simpa using h2), hc]

theorem Ii : ∀ {xs : List Int}, jQ (Kr G .i) 1 xs (xs.map (Value.int .i64))
  | [] => trivial
  | x :: xs => ⟨by simp, by simp [Kr], by simpa using Ii (xs := xs)⟩

theorem Holds.TU (h : Holds w G T Ls) {j g c e bt n : Nat} {xs ts : List Int} {os : Array Obj} (hj : Ls[j]? = some (.raw (.slice (some ⟨g, 0, none⟩) xs.length c) e bt .i xs)) (hl : ts.length = xs.length) :
    Holds (Go.Sort.grow (Go.Sort.putRow (Value.int .i64) (Go.Sort.ahead w n) g 0 ts.toArray) os) G T (Ls.set j (.raw (.slice (some ⟨g, 0, none⟩) xs.length c) e bt .i ts)) := by
  obtain ⟨cs, o1, o2, o3, o4⟩ := h.loc _ (List.mem_of_getElem? hj)
  obtain ⟨q1, q2, q3, q4, q5⟩ := grownBy_sortedI (w := w) (g := g) (n := n) (os := os) ts.toArray
  have hrg : G.role g = .loc := o4 g rfl
  have hglt : g < w.heap.size := h.lt (by rw [hrg]; simp)
  rcases o1.2 with ⟨hn, _⟩ | ⟨g', cap, cur, hv, hb0, hb, h1, h2, h3, h4⟩
  · simp at hn
  · simp only [Value.slice.injEq, Option.some.injEq, Addr.mk.injEq, and_true, true_and] at hv
    obtain ⟨rfl, rfl⟩ := hv
    have hown := ownsRow_sortedI (w := w) (n := n) (os := os) (ss := xs) (ts := ts) hl (Nat.zero_le _) hb h1 h2 (by simpa [Kd.w] using h3)
    have hsame : ∀ b, ¬ (b = g ∨ w.heap.size ≤ b) → (Go.Sort.grow (Go.Sort.putRow (Value.int .i64) (Go.Sort.ahead w n) g 0 ts.toArray) os).heap[b]? = w.heap[b]? := fun b hb' => q5 b (by omega) (fun he => by simp at he; exact hb' (.inl (by first | exact he | exact he.symm)))
    have hnb : ∀ b, G.role b ≠ .free → G.role b ≠ .loc → ¬ (b = g ∨ w.heap.size ≤ b) := by
      rintro b k1 k2 (rfl | hb')
      · exact k2 hrg
      · exact k1 (h.free b hb')
    refine h.change (fun b => b = g ∨ w.heap.size ≤ b) (Gh.le_refl G) ⟨q1, q2, q3⟩ (fun b hb' => h.free b (by omega)) (fun b hb' => ⟨hsame b hb', rfl⟩) ?_ ?_ ?_ ?_ h.ex h.inj h.finj h.fex
    · rintro b (rfl | hb')
      · unfold bJ; rw [hrg]; trivial
      · unfold bJ; rw [h.free b hb']; trivial
    · intro b t i _ _ tab x cs' k1 k2 k3
      refine ⟨tab, x, k1, k2, bQ (w := w) (L := Ls) (Gh.le_refl G) (lh hj (fun _ _ _ => rfl) (fun _ _ _ => rfl) t i) (fun b f hb' => ⟨hsame b (hnb b ?_ ?_), rfl⟩) k3⟩
      · rcases hb' with hb' | ⟨p, hb'⟩ <;> rw [hb'] <;> simp
      · rcases hb' with hb' | ⟨p, hb'⟩ <;> rw [hb'] <;> simp
    · intro l hl'
      rcases ny hj (b := g) rfl h.nd hl' with rfl | ⟨hl', hne⟩
      · refine ⟨ts.map (Value.int .i64), ?_, Ii, o3, o4⟩
        rw [hl]; exact hown
      · refine fC (Gh.le_refl G) (fun b hb' => ⟨hsame b ?_, rfl⟩) (h.loc l hl')
        rintro (rfl | hge)
        · exact hne hb'
        · have := h.yj hl' hb'; omega
    · exact uq hj rfl h.nd

theorem Holds.acO {v : Value} {e bt : Nat} {K : Kd} {xs : List K.den} (hH : Holds w G T (.raw v e bt K xs :: Ls)) : ∃ G', G.le G' ∧ VR G' (.list K) xs v ∧ Holds w G' T Ls := by
  have hnd := hH.nd
  refine hH.Y6 (Ls' := Ls) List.mem_cons_self (fun l hlm => ?_) (fun _ _ _ => rfl) ?_
  · cases hb : l.blk with
    | none => exact .inr ⟨rfl, List.mem_cons_of_mem _ hlm⟩
    | some b =>
      refine .inl ⟨List.mem_cons_of_mem _ hlm, fun he => ?_⟩
      rw [List.filterMap_cons_some (show LS.blk (.raw v e bt K xs) = some b from he.symm)] at hnd
      exact (List.nodup_cons.1 hnd).1 (List.mem_filterMap.2 ⟨l, hlm, hb⟩)
  · cases hb : LS.blk (.raw v e bt K xs) with
    | none => rwa [List.filterMap_cons_none hb] at hnd
    | some b => rw [List.filterMap_cons_some hb] at hnd; exact (List.nodup_cons.1 hnd).2

theorem aaA {v : Value} {args : List Value} (h : cO (EnR G) [.val v] args) : args = [v] := by
  cases args with
  | nil => exact h.elim
  | cons u r =>
    cases r with
    | nil => have : u = v := h.1; rw [this]
    | cons _ _ => exact h.2.elim
end
end Go.Proofs.YtbnmhjobnepajaaGreat.M


namespace Go.Proofs.YtbnmhjobnepajaaGreat.M

section
variable {P : Program} {w : World} {G : Gh} {T T' : Tabs} {Ls : List LS} {a : Act} {N : Nat} {E : Env} {ops : Array Oper} {Q : Exit → Act → World → Prop}

def aa6 (P : Program) (ops : Array Oper) (E : Env) (i : Nat) : Option (TypeId × Option Nat) :=
  match ops[i]? with
  | some o => (match goes ops (look E []) o, o.op with
    | true, .buildSlice t 0 parts => (match P.underlying t, parts.toList with
      | some (.slice el), [] => (match fA P el, zeroOf P el with
        | some _, some _ => some (el, o.dst)
        | _, _ => none)
      | _, _ => none)
    | _, _ => none)
  | none => none

theorem Rq {K : Kd} : ∀ {xs : List K.den} {cs : List Value}, jQ (Kr G K) K.w xs cs → ∀ u ∈ cs.take (xs.length * K.w), u.oneCell' = true
  | [], cs, _, u, hu => by simp at hu
  | x :: xs, cs, ⟨h1, h2, h3⟩, u, hu => by
    have e : (x :: xs).length * K.w = K.w + xs.length * K.w := by rw [List.length_cons, Nat.add_mul, Nat.one_mul, Nat.add_comm]
    rw [e, List.take_add] at hu
    rcases List.mem_append.1 hu with hu | hu
    · exact yD h2 u hu
    · exact Rq h3 u hu

end
end Go.Proofs.YtbnmhjobnepajaaGreat.M


namespace Go.Proofs.YtbnmhjobnepajaaGreat.M

end Go.Proofs.YtbnmhjobnepajaaGreat.M


namespace Go.Proofs.YtbnmhjobnepajaaGreat.M

section
variable {P : Program} {w : World} {G : Gh} {T T' : Tabs} {Ls : List LS} {a : Act} {N : Nat} {E : Env} {ops : Array Oper} {Q : Exit → Act → World → Prop}

def abT (ops : Array Oper) (E : Env) (i : Nat) : Option (Nat × KV × Option Nat) :=
  match ops[i]? with
  | some o => (match goes ops (look E []) o, o.op with
    | true, .makeFunc (.func f) first caps => (match first.toList, caps.toList with
      | [x], [] => (match gz (look E []) [] x with
        | some (.kv k x) => some (f, ⟨k, x⟩, o.dst)
        | _ => none)
      | _, _ => none)
    | _, _ => none)
  | none => none

theorem RX {c : Code} (h : c.wp P (Exit.noGoto Q) a w) : (Code.scope c).wp P Q a w := wp_scope_straight h
end
end Go.Proofs.YtbnmhjobnepajaaGreat.M


namespace Go.Proofs.YtbnmhjobnepajaaGreat.M

section
variable {P : Program} {w : World} {G : Gh} {T T' : Tabs} {Ls : List LS} {a : Act} {N : Nat} {E : Env} {ops : Array Oper} {Q : Exit → Act → World → Prop}

theorem Holds.drew (h : Holds w G T Ls) : Holds w.drew G T Ls := by
  refine h.change (fun _ => False) (Gh.le_refl G) ⟨rfl, rfl, rfl⟩ h.free (fun b _ => ⟨rfl, rfl⟩) (fun _ hb => hb.elim) ?_ ?_ h.nd h.ex h.inj h.finj h.fex
  · intro b t i _ _ tab x cs h1 h2 h3
    exact ⟨tab, x, h1, h2, bQ (w := w) (w' := w.drew) (L := Ls) (Gh.le_refl G) (fun f => rfl) (fun _ _ _ => ⟨rfl, rfl⟩) h3⟩
  · intro l hl
    exact fC (Gh.le_refl G) (fun b _ => ⟨rfl, rfl⟩) (h.loc l hl)

def jS (s : List UInt8) : List Int := s.map (fun c => (c.toNat : Int))

theorem zi (P : Program) (g o : Nat) (t : TypeId) (fz : Nat × Nat) : ∀ (vs : List Value) (i : Nat) (cur : Array Value) (w : World), w.heap[g]? = some (.cells cur t fz) → (fz.2 = 0 ∨ cur.size ≤ fz.1) → o + i + vs.length ≤ cur.size → (∀ v ∈ vs, v.oneCell' = true) →
    (storeCells ⟨g, o, none⟩ vs i).run P w = .ok () (w.setRow g (cur.toList.take (o + i) ++ vs ++ cur.toList.drop (o + i + vs.length)).toArray)
  | [], i, cur, w, hg, _, _, _ => by
    simp only [storeCells, List.append_nil, List.length_nil, Nat.add_zero, List.take_append_drop, Array.toArray_toList]
    rw [setRow_self w g cur t fz hg]
    rfl
  | v :: rest, i, cur, w, hg, hfz, hl, h1 => by
    have hi : o + i < cur.size := by simp at hl; omega
    have hadd : (⟨g, o, none⟩ : Addr).add i = ⟨g, o + i, none⟩ := by unfold Addr.add; split <;> simp_all
    have hcell : w.cell? ⟨g, o + i, none⟩ = some cur[o + i] := by simp [World.cell?, hg, hi]
    have hfro : w.frozen? ⟨g, o + i, none⟩ = false := by
      obtain ⟨lo, hi'⟩ := fz
      simp only [World.frozen?, hg, Bool.and_eq_false_iff, decide_eq_false_iff_not]
      simp only at hfz
      rcases hfz with hfz | hfz
      · right; omega
      · left; omega
    have hst : (store ((⟨g, o, none⟩ : Addr).add i) v).run P w = .ok () (w.setRow g (cur.setIfInBounds (o + i) v)) := by
      rw [hadd, run_store P w _ v _ (h1 v (by simp)), hcell]
      simp [hfro, setCell_eq_setRow w g (o + i) cur t fz v hg]
    have ih := zi P g o t fz rest (i + 1) (cur.setIfInBounds (o + i) v) (w.setRow g (cur.setIfInBounds (o + i) v)) (setRow_heap w g cur _ t _ hg) (by simpa using hfz) (by simp at hl ⊢; omega) (fun x hx => h1 x (by simp [hx]))
    simp only [storeCells, Sem.run_bind, hst, Result.andThen_ok, ih, setRow_setRow]
    congr 3
    have e := list_seg_step cur.toList (o + i) v rest (by simp at hl ⊢; omega)
    simpa [Array.toList_setIfInBounds, Nat.add_assoc] using e

theorem Holds.Vb (h : Holds w G T Ls) {w' : World} {j g : Nat} {v v' : Value} {e : Nat} {xs zs : List Int} (hj : Ls[j]? = some (.sby v e xs)) (hvb : v.ownBlock = some g) (hrole : G.role g = .loc)
    (hok : ∀ G' : Gh, (∀ b, v'.ownBlock = some b → G'.role b = .loc) → LSR w' G' (.sby v' e zs))
    (henv : w'.os = w.os ∧ w'.tape = w.tape ∧ w'.output = w.output)
    (hv' : (v'.ownBlock = v.ownBlock ∧ w'.heap.size = w.heap.size ∧ ∀ b, v.ownBlock ≠ some b → w'.heap[b]? = w.heap[b]?) ∨
      (v'.ownBlock = some w.heap.size ∧ w'.heap.size = w.heap.size + 1 ∧ ∀ b, b ≠ w.heap.size → w'.heap[b]? = w.heap[b]?)) :
    ∃ G', G.le G' ∧ Holds w' G' T (Ls.set j (.sby v' e zs)) := by
  rcases hv' with ⟨h1, h2, h3⟩ | ⟨h1, h2, h3⟩
  · refine ⟨G, Gh.le_refl G, ?_⟩
    have hno : ∀ b, G.role b ≠ .loc → v.ownBlock ≠ some b := fun b hb he => hb (by rw [hvb] at he; simp at he; subst he; exact hrole)
    have ho : LSR w' G (.sby v' e zs) := hok G (fun b hb => by rw [h1, hvb] at hb; simp at hb; subst hb; exact hrole)
    refine h.change (fun b => v.ownBlock = some b) (Gh.le_refl G) henv (fun b hb => h.free b (by omega)) (fun b hb => ⟨h3 b hb, rfl⟩) (fun b hb => by unfold bJ; rw [hvb] at hb; simp at hb; subst hb; rw [hrole]; trivial) ?_ ?_ ?_ h.ex h.inj h.finj h.fex
    · intro b t i _ _ tab x cs' k1 k2 k3
      refine ⟨tab, x, k1, k2, bQ (w := w) (L := Ls) (Gh.le_refl G) (lh hj (fun _ _ _ => rfl) (fun _ _ _ => rfl) t i) (fun b f hb => ⟨h3 b (hno b ?_), rfl⟩) k3⟩
      rcases hb with hb | ⟨p, hb⟩ <;> rw [hb] <;> simp
    · intro l hl
      rw [hvb] at h3
      rcases ny hj (show LS.blk (.sby v e xs) = some g from hvb) h.nd hl with rfl | ⟨hl, hne⟩
      · exact ho
      · exact fC (Gh.le_refl G) (fun b hb' => ⟨h3 b (fun he => by simp at he; subst he; exact hne hb'), rfl⟩) (h.loc l hl)
    · refine uq hj ?_ h.nd
      simp only [LS.blk, h1]
  · have hle : G.le (G.set w.heap.size .loc) := Gh.iH h _
    have hs : ∀ b, b ≠ w.heap.size → w'.heap[b]? = w.heap[b]? ∧ (G.set w.heap.size .loc).role b = G.role b := fun b hb => ⟨h3 b hb, Gh.aW _ _ hb⟩
    have hrf : ∀ b, G.role b ≠ .free → b ≠ w.heap.size := fun b hb he => hb (h.free b (by omega))
    have ho : LSR w' (G.set w.heap.size .loc) (.sby v' e zs) := hok _ (fun b hb => by rw [h1] at hb; simp at hb; subst hb; exact Gh.aA _ _ _)
    refine ⟨_, hle, ?_⟩
    refine h.change (fun b => b = w.heap.size) hle henv (fun b hb => ?_) (fun b hb => hs b hb) (fun b hb => ?_) ?_ ?_ ?_ ?_ ?_ ?_ ?_
    · rw [Gh.aW _ _ (by omega)]; exact h.free b (by omega)
    · subst hb; unfold bJ; rw [Gh.aA]; trivial
    · intro b t i hb1 hb2 tab x cs' k1 k2 k3
      refine ⟨tab, x, k1, k2, bQ (w := w) (L := Ls) hle (lh hj (fun _ _ _ => rfl) (fun _ _ _ => rfl) t i) (fun b f hb => hs b (hrf b ?_)) k3⟩
      rcases hb with hb | ⟨p, hb⟩ <;> rw [hb] <;> simp
    · intro l hl
      rcases List.mem_or_eq_of_mem_set hl with hl | rfl
      · exact fC hle (fun b hb' => hs b (by have := h.yj hl hb'; omega)) (h.loc l hl)
      · exact ho
    · exact yA Ls j _ _ (fun m hm b hb => h.yj hm hb) (by simpa [LS.blk] using h1) hj h.nd
    · intro t tab i k1 k2
      obtain ⟨b, hb⟩ := h.ex t tab i k1 k2
      exact ⟨b, by rw [Gh.aW _ _ (hrf b (by rw [hb]; simp))]; exact hb⟩
    · intro b b' t i k1 k2
      have n1 : b ≠ w.heap.size := fun he => by subst he; rw [Gh.aA] at k1; simp at k1
      have n2 : b' ≠ w.heap.size := fun he => by subst he; rw [Gh.aA] at k2; simp at k2
      rw [Gh.aW _ _ n1] at k1; rw [Gh.aW _ _ n2] at k2
      exact h.inj b b' t i k1 k2
    · intro b b' t i f k1 k2
      have n1 : b ≠ w.heap.size := fun he => by subst he; rw [Gh.aA] at k1; simp at k1
      have n2 : b' ≠ w.heap.size := fun he => by subst he; rw [Gh.aA] at k2; simp at k2
      rw [Gh.aW _ _ n1] at k1; rw [Gh.aW _ _ n2] at k2
      exact h.finj b b' t i f k1 k2
    · intro b t i f k1
      have n1 : b ≠ w.heap.size := fun he => by subst he; rw [Gh.aA] at k1; simp at k1
      rw [Gh.aW _ _ n1] at k1
      exact h.fex b t i f k1

theorem acJ : ∀ {G : Gh} {ys : List Int} {cs : List Value}, jQ (Kr G (.int .u8)) 1 ys cs → cs.take ys.length = ys.map (Value.int .u8)
  | G, [], cs, _ => by simp
  | G, y :: ys, cs, ⟨h1, h2, h3⟩ => by
    have h2' : cs.take 1 = [.int .u8 y] := h2
    have ih := acJ h3
    cases cs with
    | nil => simp at h2'
    | cons c r =>
      simp only [List.take_succ_cons, List.take_zero, List.cons.injEq, and_true] at h2'
      subst h2'
      simp only [List.length_cons, List.take_succ_cons, List.map_cons]
      simp only [List.drop_succ_cons, List.drop_zero] at ih
      rw [ih]

end
end Go.Proofs.YtbnmhjobnepajaaGreat.M


namespace Go.Proofs.YtbnmhjobnepajaaGreat.M

structure LK (P : Program) (w : Nat) (x : Value) (n : Nat) (news : List Value) (W : World) : Prop where
  len : ∀ W' : World, (Builtin.lenOf x).run P W' = .ok n W'
  cells : ∀ m, m ≤ n → (Builtin.firstCells w m x).run P W = .ok (news.take (m * w)).toArray W
  cellsD : ∀ m, m ≤ n → (Builtin.firstCells w m x).run P W.drew = .ok (news.take (m * w)).toArray W.drew
  newsLen : news.length = n * w

def DJ (d : TypeDesc) : Bool := match d with | .slice _ => true | .string => true | _ => false

theorem Ko {d : TypeDesc} (h : DJ d = true) : (∃ e, d = .slice e) ∨ d = .string := by
  cases d <;> first | exact .inl ⟨_, rfl⟩ | exact .inr rfl | cases h

def Rz (d : TypeDesc) (K : Kd) (e : En) : Option (List K.den) :=
  match d with
  | .slice _ => yl (.list K) e
  | .string => (match K, e with
    | .int .u8, .kv .str s => some (jS s)
    | _, _ => none)
  | _ => none

section
variable {P : Program} {w : World} {G : Gh} {T T' : Tabs} {Ls : List LS} {a : Act} {N : Nat} {E : Env} {ops : Array Oper} {Q : Exit → Act → World → Prop}

theorem TW {b off n : Nat} {m : List Value} {el : TypeId} {fz : Nat × Nat} (hb : w.heap[b]? = some (.cells ⟨m⟩ el fz)) (hl : ((m.drop off).take n).length = n) :
    (loadCells ⟨b, off, none⟩ n).run P w = .ok ⟨(m.drop off).take n⟩ w := by
  have := run_loadCells_list (P := P) w ⟨b, off, none⟩ ((m.drop off).take n) (fun j v hv => by
    rw [addr_add, vS hb]
    have hj : j < n := by
      have := (List.getElem?_eq_some_iff.1 hv).1
      rw [hl] at this; exact this
    rw [List.getElem?_take_of_lt hj, List.getElem?_drop] at hv
    simpa using hv)
  rw [hl] at this
  exact this

theorem zO {W b off n m c u : Nat} {ms : List Value} {el : TypeId} {fz : Nat × Nat} (hb : w.heap[b]? = some (.cells ⟨ms⟩ el fz)) (hl : ((ms.drop off).take (n * W)).length = n * W) (hm : m ≤ n) :
    (Builtin.firstCells W m (.slice (some ⟨b, off, none⟩) u c)).run P w = .ok (((ms.drop off).take (n * W)).take (m * W)).toArray w := by
  have hmw : m * W ≤ n * W := Nat.mul_le_mul_right _ hm
  have e : ((ms.drop off).take (n * W)).take (m * W) = (ms.drop off).take (m * W) := by
    rw [List.take_take, Nat.min_eq_left hmw]
  have hl2 : ((ms.drop off).take (m * W)).length = m * W := by
    rw [← e, List.length_take, hl]; omega
  rw [e]
  exact TW hb hl2

theorem La : ∀ {s : List UInt8}, jQ (Kr G (.int .u8)) 1 (jS s) (s.map fun b => Value.int .u8 b.toNat)
  | [] => trivial
  | b :: s => ⟨by simp, rfl, La (s := s)⟩

theorem RD {K : Kd} {ys : List K.den} {v : Value} (hH : Holds w G T Ls) (h : VR G (.list K) ys v) :
    ∃ news, LK P K.w v ys.length news w ∧ jQ (Kr G K) K.w ys news ∧ ∀ u ∈ news, u.oneCell' = true := by
  obtain ⟨A, c, rfl, hc, hr⟩ := qR h
  rcases hr with rfl | ⟨b, off, p, rfl, hp, hrow⟩
  · refine ⟨[], ⟨fun _ => rfl, fun m hm => ?_, fun m hm => ?_, by simp⟩, trivial, fun u hu => by simp at hu⟩ <;>
      (have hm0 : m = 0 := by simpa using hm
       subst hm0
       cases A <;> simp [Builtin.firstCells, loadCells, loadCellsFrom])
  · obtain ⟨ce, ty, fr, rest, hh, hce⟩ := hH.G9 hp
    have hl := Ro hrow
    have hh' : w.heap[b]? = some (.cells ⟨p ++ rest⟩ ty fr) := by rw [hh, ← hce]
    have e : ((p ++ rest).drop off).take (ys.length * K.w) = (p.drop off).take (ys.length * K.w) := LU hl
    have hlen : (((p ++ rest).drop off).take (ys.length * K.w)).length = ys.length * K.w := by rw [e, List.length_take]; omega
    refine ⟨(p.drop off).take (ys.length * K.w), ⟨fun _ => rfl, fun m hm => ?_, fun m hm => ?_, by rw [← e]; exact hlen⟩, Rn hrow, Rq hrow⟩
    · have := zO (P := P) (u := ys.length) (c := c) hh' hlen hm
      rw [e] at this; exact this
    · have := zO (P := P) (w := w.drew) (u := ys.length) (c := c) hh' hlen hm
      rw [e] at this; exact this

theorem src_ok {d : TypeDesc} {K : Kd} {e : En} {ys : List K.den} {v : Value} (hH : Holds w G T Ls) (he : EnR G e v) (h : Rz d K e = some ys) :
    DJ d = true ∧ ∃ news, LK P K.w v ys.length news w ∧ jQ (Kr G K) K.w ys news ∧ ∀ u ∈ news, u.oneCell' = true := by
  unfold Rz at h
  split at h
  · exact ⟨rfl, RD hH (jJ h he)⟩
  · split at h
    · rename_i s
      obtain rfl := Option.some.inj h
      obtain rfl := unS he
      have hex : ∀ m, (((⟨s.toArray⟩ : ByteArray).extract 0 m).data.map fun b => Value.int .u8 b.toNat) = ((s.map fun b => Value.int .u8 b.toNat).take (m * 1)).toArray := by
        intro m
        apply Array.ext'
        rw [Array.toList_map, ByteArray.data_extract, Array.toList_extract, List.extract_eq_take_drop]
        simp [List.map_take]
      have hl : (jS s).length = s.length := by unfold jS; exact List.length_map _
      refine ⟨rfl, s.map fun b => Value.int .u8 b.toNat, ⟨fun _ => ?_, fun m hm => ?_, fun m hm => ?_, ?_⟩, La, fun u hu => ?_⟩
      · rw [hl]; simp [Builtin.lenOf]
        rfl
      · simp only [Builtin.firstCells, Sem.run_pure, hex]; rfl
      · simp only [Builtin.firstCells, Sem.run_pure, hex]; rfl
      · rw [hl, List.length_map]; exact (Nat.mul_one _).symm
      · obtain ⟨b, _, rfl⟩ := List.mem_map.1 hu; rfl
    · cases h
  · cases h

variable {t tx ty el : TypeId} {d : TypeDesc} {ti : TypeInfo} {zv : Value} {w' : Nat}

theorem J6 (ht : P.underlying t = some (.slice el)) (hu : P.underlying tx = some d) (hd : DJ d = true) (hi : P.info? el = some ti) (hz : ti.zero = some zv) (hw : ti.size = w')
    {base : Option Addr} {u cap n : Nat} {x : Value} {olds news : List Value} (hold : (Builtin.firstCells w' u (.slice base u cap)).run P w.drew = .ok olds.toArray w.drew) (hs : LK P w' x n news w)
    (hg : cap < u + n) (hby : (u + n) * ti.bytes ≤ 140737488355328) (h63 : u + n ≤ 140737488355328) :
    (Builtin.append_ #[t, tx] ty #[.slice base u cap, x]).run P w = .ok (.slice (some ⟨w.heap.size, 0, none⟩) (u + n) (grownCap w (u + n) cap el))
      (w.drew.alloc (.cells ((olds ++ news).toArray ++ Builtin.zeroCells zv.cells (grownCap w (u + n) cap el - (u + n))) el)) := by
  have hn : ¬ (u + n ≤ cap) := by omega
  have h63' : ¬ (9223372036854775807 < ((u : Int) + (n : Int))) := by omega
  have h48' : ¬ (281474976710656 < Builtin.nextslicecap (u + n) cap * ti.bytes) := by
    have := growslice_fits hg hby
    omega
  have hc := hs.cellsD n (Nat.le_refl n)
  have e : news.take (n * w') = news := List.take_of_length_le (by rw [hs.newsLen]; exact Nat.le_refl _)
  rw [e] at hc
  subst hw
  rcases Ko hd with ⟨e', rfl⟩ | rfl <;>
    (simp [Builtin.append_, run_underlying ht, run_underlying hu, sizeOf, typeInfo, zeroValue, hi, hz, hs.len, hn, h63', h48', Question.forced, hc, hold, newRow, grownCap]
     congr 2
     apply Array.ext'
     simp [List.append_assoc])

theorem Rl (ht : P.underlying t = some (.slice el)) (hu : P.underlying tx = some d) (hd : DJ d = true) (hi : P.info? el = some ti) (hw : ti.size = w')
    {b off u cap n : Nat} {x : Value} {m news : List Value} {et : TypeId} {fz : Nat × Nat} (hs : LK P w' x n news w) (hroom : u + n ≤ cap) (hb : w.heap[b]? = some (.cells ⟨m⟩ et fz)) (hz : fz.2 = 0 ∨ m.length ≤ fz.1)
    (hl : off + u * w' + news.length ≤ m.length) (h1 : ∀ x ∈ news, x.oneCell' = true) :
    (Builtin.append_ #[t, tx] ty #[.slice (some ⟨b, off, none⟩) u cap, x]).run P w = .ok (.slice (some ⟨b, off, none⟩) (u + n) cap) (w.setRow b ⟨m.take (off + u * w') ++ news ++ m.drop (off + u * w' + news.length)⟩) := by
  have hc := hs.cells n (Nat.le_refl n)
  have e : news.take (n * w') = news := List.take_of_length_le (by rw [hs.newsLen]; exact Nat.le_refl _)
  rw [e] at hc
  have hst : (storeCells ⟨b, off + u * w', none⟩ news).run P w = .ok () (w.setRow b ⟨m.take (off + u * w') ++ news ++ m.drop (off + u * w' + news.length)⟩) := by
    have := zi P b (off + u * w') et fz news 0 ⟨m⟩ w hb hz (by simpa using hl) h1
    simpa using this
  subst hw
  rcases Ko hd with ⟨e', rfl⟩ | rfl <;> simp [Builtin.append_, run_underlying ht, run_underlying hu, sizeOf, typeInfo, hi, hs.len, hroom, hc, Addr.add_lit, hst]

theorem KI (ht : P.underlying t = some (.slice el)) (hu : P.underlying tx = some d) (hd : DJ d = true) (hi : P.info? el = some ti) (hw : ti.size = w')
    {base : Option Addr} {u cap : Nat} {x : Value} {news : List Value} (hs : LK P w' x 0 news w) (hle : u ≤ cap) :
    (Builtin.append_ #[t, tx] ty #[.slice base u cap, x]).run P w = .ok (.slice base u cap) w := by
  have hc := hs.cells 0 (Nat.le_refl 0)
  rw [Nat.zero_mul, List.take_zero] at hc
  subst hw
  rcases Ko hd with ⟨e', rfl⟩ | rfl <;> cases base <;> simp [Builtin.append_, run_underlying ht, run_underlying hu, sizeOf, typeInfo, hi, hs.len, hle, hc, storeCells]

theorem QX {K : Kd} {cs news : List Value} {n m cap : Nat} (z : Array Value) (hz : z.size = K.w) (hcs : cs.length = n * K.w) (hnw : news.length = m * K.w) (hle : n + m ≤ cap) (hmx : cap ≤ maxLen) (e : TypeId) :
    (w.drew.alloc (.cells ((cs ++ news).toArray ++ Builtin.zeroCells z (cap - (n + m))) e)).ownsRow 0 e K.w (.slice (some ⟨w.heap.size, 0, none⟩) (n + m) cap) (n + m) (cs ++ news) := by
  have hl : (cs ++ news).length = (n + m) * K.w := by rw [List.length_append, hcs, hnw, Nat.add_mul]
  refine ⟨hl, .inr ⟨w.heap.size, cap, _, rfl, Nat.zero_le _, heap_alloc_new' w.drew _, hle, hmx, ?_, ?_⟩⟩
  · rw [Array.size_append, List.size_toArray, hl, size_zeroCells, hz, ← Nat.add_mul]
    congr 1; omega
  · rw [Array.toList_append, List.take_append_of_le_length (by simpa using Nat.le_of_eq hl.symm)]
    exact List.take_of_length_le (by simpa using Nat.le_of_eq hl)

theorem VC {K : Kd} {bt n m : Nat} {v x : Value} {cs news : List Value} (ht : P.underlying t = some (.slice el)) (hu : P.underlying tx = some d) (hd : DJ d = true) (hi : P.info? el = some ti) (hok : qj ti K bt = true)
    (hown : w.ownsRow 0 el K.w v n cs) (hs : LK P K.w x m news w) (h1 : ∀ u ∈ news, u.oneCell' = true) (hB : (n + m) * bt ≤ 140737488355328) :
    ∃ v' w', (Builtin.append_ #[t, tx] ty #[v, x]).run P w = .ok v' w' ∧ w'.ownsRow 0 el K.w v' (n + m) (cs ++ news) ∧ (w'.os = w.os ∧ w'.tape = w.tape ∧ w'.output = w.output) ∧
      ((v'.ownBlock = v.ownBlock ∧ w'.heap.size = w.heap.size ∧ ∀ b, v.ownBlock ≠ some b → w'.heap[b]? = w.heap[b]?) ∨
       (v'.ownBlock = some w.heap.size ∧ w'.heap.size = w.heap.size + 1 ∧ ∀ b, b ≠ w.heap.size → w'.heap[b]? = w.heap[b]?)) := by
  unfold qj at hok
  simp only [Bool.and_eq_true] at hok
  obtain ⟨k1, k2, k3, k4, k5⟩ := hok
  have hsize := Nat.eq_of_beq_eq_true k1
  have hby := Nat.eq_of_beq_eq_true k2
  have hsz : 0 < K.w := Nat.le_of_ble_eq_true k3
  have hb0 : 0 < bt := Nat.le_of_ble_eq_true k4
  have h63 : n + m ≤ 140737488355328 := Nat.le_trans (Nat.le_mul_of_pos_right _ hb0) hB
  cases hz : ti.zero with
  | none => rw [hz] at k5; simp at k5
  | some z =>
    rw [hz] at k5
    have hzs := Nat.eq_of_beq_eq_true k5
    have fresh : ∀ (y : Array Value), (w.drew.alloc (.cells y el)).heap.size = w.heap.size + 1 ∧ ∀ b, b ≠ w.heap.size → (w.drew.alloc (.cells y el)).heap[b]? = w.heap[b]? := by
      intro y
      refine ⟨by simp, fun b hb => ?_⟩
      rw [iq w.drew (.cells y el) (b := b) (by simpa using hb)]; rfl
    by_cases hm : m = 0
    · subst hm
      have hn0 : news = [] := List.eq_nil_of_length_eq_zero (by rw [hs.newsLen]; simp)
      subst hn0
      rw [List.append_nil]
      rcases hown.2 with ⟨rfl, rfl⟩ | ⟨g, cap, cur, rfl, _, hg, hnc, _⟩
      · exact ⟨_, _, KI ht hu hd hi hsize hs (Nat.le_refl _), hown, ⟨rfl, rfl, rfl⟩, .inl ⟨rfl, rfl, fun _ _ => rfl⟩⟩
      · exact ⟨_, _, KI ht hu hd hi hsize hs hnc, hown, ⟨rfl, rfl, rfl⟩, .inl ⟨rfl, rfl, fun _ _ => rfl⟩⟩
    · have hcl := hown.1
      have gr : ∀ (base : Option Addr) (cap : Nat), v = .slice base n cap → cap < n + m → (Builtin.firstCells K.w n (.slice base n cap)).run P w.drew = .ok cs.toArray w.drew →
          ∃ v' w', (Builtin.append_ #[t, tx] ty #[v, x]).run P w = .ok v' w' ∧ w'.ownsRow 0 el K.w v' (n + m) (cs ++ news) ∧ (w'.os = w.os ∧ w'.tape = w.tape ∧ w'.output = w.output) ∧
            (v'.ownBlock = some w.heap.size ∧ w'.heap.size = w.heap.size + 1 ∧ ∀ b, b ≠ w.heap.size → w'.heap[b]? = w.heap[b]?) := by
        intro base cap hv hlt hold
        subst hv
        refine ⟨_, _, J6 ht hu hd hi hz hsize hold hs hlt (by rw [hby]; exact hB) h63, QX z.cells hzs hcl hs.newsLen (grownCap_ge _ _ _ _) (grownCap_le_maxLen _ _ _ _ (by simp only [maxLen]; omega)) el, ⟨rfl, rfl, rfl⟩, rfl, fresh _⟩
      rcases hown.2 with ⟨rfl, rfl⟩ | ⟨g, cap, cur, rfl, _, hg, hnc, hcm, hcs, htake⟩
      · have hc0 : cs = [] := List.eq_nil_of_length_eq_zero (by rw [hcl]; simp)
        subst hc0
        obtain ⟨v', w', r1, r2, r3, r4⟩ := gr none 0 rfl (by omega) (by simp [Builtin.firstCells])
        exact ⟨v', w', r1, r2, r3, .inr r4⟩
      · by_cases hroom : n + m ≤ cap
        · have hfit : 0 + n * K.w + news.length ≤ cur.toList.length := by
            rw [hs.newsLen, Array.length_toList, hcs, Nat.zero_add, ← Nat.add_mul]; exact Nat.mul_le_mul_right _ hroom
          have hrr := Rl (P := P) (ty := ty) ht hu hd hi hsize (off := 0) (m := cur.toList) hs hroom hg (.inl rfl) hfit h1
          refine ⟨_, _, hrr, ⟨by rw [List.length_append, hcl, hs.newsLen, Nat.add_mul], .inr ⟨g, cap, ⟨cur.toList.take (0 + n * K.w) ++ news ++ cur.toList.drop (0 + n * K.w + news.length)⟩, rfl, Nat.zero_le _, ?_, hroom, hcm, ?_, ?_⟩⟩, ⟨rfl, rfl, rfl⟩, .inl ⟨rfl, by simp, fun b hb => ?_⟩⟩
          · exact setRow_heap w g cur _ el (0, 0) hg
          · have : (cur.toList.take (0 + n * K.w)).length = n * K.w := by rw [List.length_take, Array.length_toList, hcs]; have := Nat.mul_le_mul_right K.w hnc; omega
            simp only [List.size_toArray, List.length_append, List.length_drop, this, Array.length_toList, hcs] at hfit ⊢
            omega
          · rw [Nat.zero_add, htake, List.append_assoc, ← List.append_assoc]
            rw [List.take_append_of_le_length (by rw [List.length_append, hcl, hs.newsLen, Nat.add_mul]; exact Nat.le_refl _)]
            exact List.take_of_length_le (by rw [List.length_append, hcl, hs.newsLen, Nat.add_mul]; exact Nat.le_refl _)
          · exact setRow_other w g b _ (fun he => hb (by rw [he]; rfl))
        · have hold : (Builtin.firstCells K.w n (.slice (some ⟨g, 0, none⟩) n cap)).run P w.drew = .ok cs.toArray w.drew := by
            have hl : ((cur.toList.drop 0).take (n * K.w)).length = n * K.w := by rw [List.drop_zero, htake]; exact hcl
            have := zO (P := P) (w := w.drew) (u := n) (c := cap) (m := n) (ms := cur.toList) (off := 0) hg hl (Nat.le_refl _)
            rw [List.drop_zero, htake, List.take_of_length_le (by rw [hcl]; exact Nat.le_refl _)] at this
            exact this
          obtain ⟨v', w', r1, r2, r3, r4⟩ := gr _ cap rfl (by omega) hold
          exact ⟨v', w', r1, r2, r3, .inr r4⟩
end
end Go.Proofs.YtbnmhjobnepajaaGreat.M


namespace Go.Proofs.YtbnmhjobnepajaaGreat.M

section
variable {P : Program} {w : World} {G : Gh} {T T' : Tabs} {Ls : List LS} {a : Act} {N : Nat} {E : Env} {ops : Array Oper} {Q : Exit → Act → World → Prop}

def Js (P : Program) (ops : Array Oper) (E : Env) (i : Nat) (K : Kd) (bt : Nat) : Option (En × List K.den × TypeId × Option Nat) :=
  match ops[i]? with
  | some o => (match goes ops (look E []) o, o.op with
    | true, .call c => (match c.callee, c.args.toList, c.argTypes.toList with
      | .builtin .append, [s, x], [t, u] => (match P.underlying t, P.underlying u, gz (look E []) [] s, gz (look E []) [] x with
        | some (.slice e), some d, some es, some ex => (match P.info? e, Rz d K ex with
          | some inf, some ys => (match qj inf K bt with
            | true => some (es, ys, e, o.dst)
            | false => none)
          | _, _ => none)
        | _, _, _, _ => none)
      | _, _, _ => none)
    | _, _ => none)
  | none => none

def ace (ops : Array Oper) (i : Nat) : Option Operand :=
  match ops[i]? with
  | some o => (match o.op with
    | .call c => c.args.toList.head?
    | _ => none)
  | none => none

theorem Qb {i bt : Nat} {K : Kd} {es : En} {ys : List K.den} {e' : TypeId} {d : Option Nat} (hE : dD G N a E) (hH : Holds w G T Ls) (hb : Js P ops E i K bt = some (es, ys, e', d)) :
    ∃ o t u dd inf s vx news, ops[i]? = some o ∧ ace ops i = some s ∧ goes ops (look E []) o = true ∧ o.dst = d ∧ P.underlying t = some (.slice e') ∧ P.underlying u = some dd ∧ DJ dd = true ∧ P.info? e' = some inf ∧ qj inf K bt = true ∧ EnR G es (a.eval s) ∧
      LK P K.w vx ys.length news w ∧ jQ (Kr G K) K.w ys news ∧ (∀ u ∈ news, u.oneCell' = true) ∧ ∀ w1 v' w', (Builtin.append_ #[t, u] o.type #[a.eval s, vx]).run P w1 = .ok v' w' → (execOp a.eval o).run P w1 = .ok (.value v') w' := by
  unfold Js at hb
  split at hb
  · rename_i o ho
    split at hb
    · rename_i c hg hop
      split at hb
      · rename_i s x t u hcal hargs hts
        split at hb
        · rename_i el dd es' ex hu hx2 hs hx
          split at hb
          · rename_i inf ys' hinf hsrc
            have hok : qj inf K bt = true := by
              cases hq : qj inf K bt with
              | true => rfl
              | false => rw [hq] at hb; simp at hb
            rw [hok] at hb
            simp only [Option.some.injEq, Prod.mk.injEq] at hb
            obtain ⟨rfl, rfl, rfl, rfl⟩ := hb
            have hv1 := dG (aI hE) (by simp) hs
            have hv2 := dG (aI hE) (by simp) hx
            obtain ⟨hd, news, h1, h2, h3⟩ := src_ok (P := P) hH hv2 hsrc
            have hop' : o.op = .call { callee := .builtin .append, args := #[s, x], argTypes := #[t, u] } := by
              rw [hop]
              congr 1
              cases c with
              | mk ca ar at_ =>
                simp only at hcal hargs hts
                subst hcal
                congr 1
                · rw [← hargs]
                · rw [← hts]
            refine ⟨o, t, u, dd, inf, s, _, news, ho, by unfold ace; rw [ho]; simp only [hop']; rfl, hg, rfl, hu, hx2, hd, hinf, hok, hv1, h1, h2, h3, fun w1 v' w' hr => ?_⟩
            simp only [execOp, hop', resolve, invoke, builtin, Sem.run_bind, Sem.run_pure, Result.andThen_ok, List.map_toArray, List.map_cons, List.map_nil, hr]
          · simp at hb
        · simp at hb
      · simp at hb
    · simp at hb
  · simp at hb

theorem SG {el : TypeId} (bt : Nat) (K : Kd) {d : Option Nat} {i : Nat} (hE : dD G N a E) (hH : Holds w G T Ls) (hb : aa6 P ops E i = some (el, d)) :
    ∃ o v w' G', ops[i]? = some o ∧ goes ops (look E []) o = true ∧ o.dst = d ∧ (execOp a.eval o).run P w = .ok (.value v) w' ∧ G.le G' ∧ VR G' (.list K) [] v ∧ Holds w' G' T (.tk v el bt K [] :: Ls) := by
  unfold aa6 at hb
  split at hb
  · rename_i o ho
    split at hb
    · rename_i t parts hg hop
      split at hb
      · rename_i el' hu hp
        split at hb
        · rename_i sz z hs hz
          simp only [Option.some.injEq, Prod.mk.injEq] at hb
          obtain ⟨rfl, rfl⟩ := hb
          have hle : G.le (G.set w.heap.size (.grow .loc [])) := Gh.iH hH _
          refine ⟨o, .slice (some ⟨w.heap.size, 0, none⟩) 0 0, w.alloc (.cells #[] el'), _, ho, hg, rfl, ?_, hle, nN.2 ⟨_, _, rfl, Nat.zero_le _, .inl rfl⟩, ?_⟩
          · simp only [execOp, hop]
            refine dA ?_
            unfold Instr.buildSlice
            rw [bM hu]
            simp only [Sem.run_bind, run_sizeOf hs, Result.andThen_ok]
            have he : ∀ f : Nat → Value, (Array.range 0).map f = #[] := fun f => by apply Array.ext'; simp
            simp [hp, Instr.fill, newRow, he]
          · refine hH.yF _ (.grow .loc []) _ (.inr ⟨[], rfl⟩) ?_ ?_ rfl (fun _ _ _ => rfl)
            · unfold bJ
              rw [Gh.aA]
              exact ⟨#[], el', heap_alloc_new' _ _, [], rfl⟩
            · refine ⟨[], ⟨by simp, .inr ⟨w.heap.size, 0, #[], rfl, Nat.zero_le _, heap_alloc_new' _ _, Nat.le_refl _, Nat.zero_le _, by simp, by simp⟩⟩, trivial, trivial, fun b hb => ?_⟩
              obtain rfl : w.heap.size = b := by simpa [Value.ownBlock] using hb
              exact Gh.aA _ _ _
        · simp at hb
      · simp at hb
    · simp at hb
  · simp at hb

def ab4 (P : Program) (ops : Array Oper) (E : Env) (i : Nat) (K : Kd) : Option (List K.den × Int × Int × Option Nat) :=
  match ops[i]? with
  | some o => (match goes ops (look E []) o, o.op with
    | true, .slice t x none (some y) (some z) => (match P.underlying t, gz (look E []) [] x, gz (look E []) [] y, gz (look E []) [] z with
      | some (.slice el), some e, some (.kv (.int _) n), some (.kv (.int _) m) => (match fA P el, yl (.list K) e with
        | some sz, some xs => some (xs, n, m, o.dst)
        | _, _ => none)
      | _, _, _, _ => none)
    | _, _ => none)
  | none => none

theorem aaJ (K : Kd) {xs : List K.den} {n m : Int} {d : Option Nat} {i : Nat} (hE : dD G N a E) (hb : ab4 P ops E i K = some (xs, n, m, d)) (hn : n = (xs.length : Int)) (hm : m = (xs.length : Int)) :
    ∃ o v, ops[i]? = some o ∧ goes ops (look E []) o = true ∧ o.dst = d ∧ (execOp a.eval o).run P w = .ok (.value v) w ∧ EnR G (.cp K xs) v := by
  unfold ab4 at hb
  split at hb
  · rename_i o ho
    split at hb
    · rename_i t x y z hg hop
      split at hb
      · rename_i el e kn n' km m' hu hx hy hz
        split at hb
        · rename_i sz xs' hs hc
          simp only [Option.some.injEq, Prod.mk.injEq] at hb
          obtain ⟨rfl, rfl, rfl, rfl⟩ := hb
          have hv1 : VR G (.list K) xs' (a.eval x) := jJ hc (dG (aI hE) (by simp) hx)
          have hv2 := unI (dG (aI hE) (by simp) hy)
          have hv3 := unI (dG (aI hE) (by simp) hz)
          obtain ⟨A, c, hA, hle, hr⟩ := qR hv1
          have hb1 : ∀ (kk : IntKind) (y : Nat) (code : BoundsCode) (q : Int), q = (xs'.length : Int) → xs'.length ≤ y → ∀ w : World, (Instr.sliceBound (.int kk q) y code).run P w = .ok xs'.length w := by
            intro kk y code q hq hy w
            have := zh (P := P) (w := w) (k := kk) (n := q) (y := y) (code := code) (by omega)
            rw [this, hq]; simp
          refine ⟨o, .slice (if xs'.length = 0 then A else A.map (·.add (0 * sz))) xs'.length xs'.length, ho, hg, rfl, ?_, _, rfl, ?_⟩
          · simp only [execOp, hop, Option.map_some, Option.map_none]
            refine dA ?_
            rw [hA, hv2, hv3]
            unfold Instr.sliceAt
            rw [bM hu]
            simp only [Instr.slice]
            rw [bM hu]
            simp only [Sem.run_bind, Instr.sliceBounds, hb1 _ _ _ _ hm hle, hb1 _ _ _ _ hn (Nat.le_refl _), Result.andThen_ok, Sem.run_pure, run_sizeOf hs]
            simp
          · refine nN.2 ⟨_, _, rfl, Nat.le_refl _, ?_⟩
            rcases hr with hr | ⟨b, off, p, rfl, hp, hr⟩
            · exact .inl hr
            · by_cases h0 : xs'.length = 0
              · exact .inl (List.eq_nil_of_length_eq_zero h0)
              · refine .inr ⟨b, off, p, ?_, hp, hr⟩
                rw [if_neg h0]
                simp [addr_add]
        · simp at hb
      · simp at hb
    · simp at hb
  · simp at hb

def Qh (K : Kd) (e : En) : Option (List K.den) :=
  match e with
  | .cp k xs => if h : k = K then some (h ▸ xs) else none
  | .pl k xs => if h : k = K then some (h ▸ xs) else none
  | _ => none

theorem Ux {K : Kd} {e : En} {xs : List K.den} {v : Value} (h : Qh K e = some xs) (he : EnR G e v) : ∃ A, v = .slice A xs.length xs.length ∧ VR G (.list K) xs v := by
  unfold Qh at h
  split at h
  · split at h
    · rename_i hk; subst hk
      simp only [Option.some.injEq] at h; subst h
      exact he
    · cases h
  · split at h
    · rename_i k xs0 hk; subst hk
      simp only [Option.some.injEq] at h; subst h
      have hv := jJ (k := .list k) (e := .pl k xs0) (x := xs0) (by simp [yl]) he
      obtain ⟨b, c, ty, n, rfl, rfl, _⟩ := he
      exact ⟨_, rfl, hv⟩
    · cases h
  · cases h

theorem Uw {K : Kd} {bt i : Nat} {es : En} {xs ys : List K.den} {e' : TypeId} {d : Option Nat} (hE : dD G N a E) (hH : Holds w G T Ls) (hcap : Qh K es = some xs) (hb : Js P ops E i K bt = some (es, ys, e', d)) (hne : 0 < ys.length) (hq : (xs.length + ys.length) * bt ≤ 140737488355328) :
    ∃ o cs cap z, ops[i]? = some o ∧ goes ops (look E []) o = true ∧ o.dst = d ∧ xs.length + ys.length ≤ cap ∧ jQ (Kr G K) K.w (xs ++ ys) cs ∧ (∀ u ∈ cs, u.oneCell' = true) ∧ cs.length = (xs.length + ys.length) * K.w ∧ z.size = K.w ∧
      (w.drew.alloc (.cells (cs.toArray ++ Builtin.zeroCells z (cap - (xs.length + ys.length))) e')).ownsRow 0 e' K.w (.slice (some ⟨w.heap.size, 0, none⟩) (xs.length + ys.length) cap) (xs.length + ys.length) cs ∧
      (execOp a.eval o).run P w = .ok (.value (.slice (some ⟨w.heap.size, 0, none⟩) (xs.length + ys.length) cap)) (w.drew.alloc (.cells (cs.toArray ++ Builtin.zeroCells z (cap - (xs.length + ys.length))) e')) := by
  obtain ⟨o, t, u, dd, inf, s, vx, news, ho, _, hg, rfl, hu, hx2, hsd, hinf, hok, hes, h1, h2, h3, hx⟩ := Qb hE hH hb
  obtain ⟨A, hs, hv⟩ := Ux hcap hes
  rw [hs] at hx hv
  obtain ⟨olds, g1, g2, g3⟩ := RD (P := P) hH hv
  unfold qj at hok
  simp only [Bool.and_eq_true] at hok
  obtain ⟨k1, k2, k3, k4, k5⟩ := hok
  have hsize := Nat.eq_of_beq_eq_true k1
  have hby := Nat.eq_of_beq_eq_true k2
  have hb0 : 0 < bt := Nat.le_of_ble_eq_true k4
  have h63 : xs.length + ys.length ≤ 140737488355328 := Nat.le_trans (Nat.le_mul_of_pos_right _ hb0) hq
  cases hz : inf.zero with
  | none => rw [hz] at k5; simp at k5
  | some z =>
    rw [hz] at k5
    have hzs := Nat.eq_of_beq_eq_true k5
    have hold := g1.cellsD xs.length (Nat.le_refl _)
    rw [List.take_of_length_le (by rw [g1.newsLen]; exact Nat.le_refl _)] at hold
    have hr := J6 (ty := o.type) hu hx2 hsd hinf hz hsize hold h1 (by omega) (by rw [hby]; exact hq) h63
    have hcap1 := grownCap_ge w (xs.length + ys.length) xs.length e'
    have hcap2 := grownCap_le_maxLen w (xs.length + ys.length) xs.length e' (by simp only [maxLen]; omega)
    exact ⟨o, olds ++ news, _, z.cells, ho, hg, rfl, hcap1, F5 g2 g1.newsLen h2, fun u hu => (List.mem_append.1 hu).elim (g3 u) (h3 u), by rw [List.length_append, g1.newsLen, h1.newsLen, Nat.add_mul], hzs, QX (w := w) z.cells hzs g1.newsLen h1.newsLen hcap1 hcap2 e', hx _ _ _ hr⟩

theorem Xk {K : Kd} {bt i : Nat} {es : En} {xs ys : List K.den} {e' : TypeId} {d : Option Nat} (hE : dD G N a E) (hH : Holds w G T Ls) (hcap : Qh K es = some xs) (hb : Js P ops E i K bt = some (es, ys, e', d)) (hne : 0 < ys.length) (hq : (xs.length + ys.length) * bt ≤ 140737488355328) :
    ∃ o v w' G', ops[i]? = some o ∧ goes ops (look E []) o = true ∧ o.dst = d ∧ (execOp a.eval o).run P w = .ok (.value v) w' ∧ G.le G' ∧ VR G' (.list K) (xs ++ ys) v ∧ Holds w' G' T (.tk v e' bt K (xs ++ ys) :: Ls) := by
  obtain ⟨o, cs, cap, z, ho, hg, hd, hle, hrr, hone, hcl, hz, hrow, hr⟩ := Uw hE hH hcap hb hne hq
  have hlg : G.le (G.set w.heap.size (.grow .loc cs)) := Gh.iH hH _
  have hlen : (xs ++ ys).length = xs.length + ys.length := List.length_append
  refine ⟨o, _, _, _, ho, hg, hd, hr, hlg, nN.2 ⟨some ⟨w.heap.size, 0, none⟩, _, by rw [hlen], by rw [hlen]; exact hle, .inr ⟨w.heap.size, 0, cs, rfl, by unfold Gh.pre; rw [Gh.aA], ?_⟩⟩, ?_⟩
  · rw [List.drop_zero]
    exact iV (fun x cs h => eP hlg h) hrr
  · refine hH.drew.yF _ (.grow .loc cs) (.tk _ e' bt K (xs ++ ys)) (.inr ⟨_, rfl⟩) ?_ ?_ rfl (fun _ _ _ => rfl)
    · unfold bJ
      rw [Gh.aA]
      exact ⟨_, e', heap_alloc_new' w.drew _, (Builtin.zeroCells z (cap - (xs.length + ys.length))).toList, by simp⟩
    · refine ⟨cs, by rw [hlen]; exact hrow, iV (fun x cs h => eP hlg h) hrr, trivial, fun b hb => ?_⟩
      obtain rfl : w.heap.size = b := by simpa [Value.ownBlock] using hb
      exact Gh.aA _ _ _

theorem Xl {K : Kd} {bt i : Nat} {es : En} {xs ys : List K.den} {e' : TypeId} {d : Option Nat} (hE : dD G N a E) (hH : Holds w G T Ls) (hcap : Qh K es = some xs) (hb : Js P ops E i K bt = some (es, ys, e', d)) (hq : (xs.length + ys.length) * bt ≤ 140737488355328) :
    ∃ o v w' G', ops[i]? = some o ∧ goes ops (look E []) o = true ∧ o.dst = d ∧ (execOp a.eval o).run P w = .ok (.value v) w' ∧ G.le G' ∧ VR G' (.list K) (xs ++ ys) v ∧ Holds w' G' T Ls := by
  by_cases hne : 0 < ys.length
  · obtain ⟨o, cs, cap, z, ho, hg, hd, hle, hrr, hone, hcl, hz, hrow, hr⟩ := Uw hE hH hcap hb hne hq
    have hlg : G.le (G.set w.heap.size (.pub (.cells (cs.toArray ++ Builtin.zeroCells z (cap - (xs.length + ys.length))) e'))) := Gh.iH hH _
    have hlen : (xs ++ ys).length = xs.length + ys.length := List.length_append
    refine ⟨o, _, _, _, ho, hg, hd, hr, hlg, nN.2 ⟨some ⟨w.heap.size, 0, none⟩, _, by rw [hlen], by rw [hlen]; exact hle, .inr ⟨w.heap.size, 0, _, rfl, by unfold Gh.pre; rw [Gh.aA], ?_⟩⟩, ?_⟩
    · rw [List.drop_zero, Array.toList_append]
      exact BO (iV (fun x cs h => eP hlg h) hrr)
    · exact hH.drew.P9 _
  · obtain ⟨o, t, u, dd, inf, s, vx, news, ho, _, hg, rfl, hu, hx2, hsd, hinf, hok, hes, h1, h2, h3, hx⟩ := Qb hE hH hb
    obtain ⟨A, hs, hv⟩ := Ux hcap hes
    obtain rfl : ys = [] := List.eq_nil_of_length_eq_zero (by omega)
    unfold qj at hok
    simp only [Bool.and_eq_true] at hok
    have hsize := Nat.eq_of_beq_eq_true hok.1
    have hr := KI (P := P) (ty := o.type) (base := A) (u := xs.length) (cap := xs.length) hu hx2 hsd hinf hsize h1 (Nat.le_refl _)
    exact ⟨o, a.eval s, w, G, ho, hg, rfl, hx _ _ _ (by rw [hs]; exact hr), Gh.le_refl G, by rw [List.append_nil]; exact hv, hH⟩

end
end Go.Proofs.YtbnmhjobnepajaaGreat.M


namespace Go.Proofs.YtbnmhjobnepajaaGreat.M

theorem zg {a : Act} {d : Nat} {v : Value} (hd : d < a.tmps.size) : (a.put (some d) v).tmps.getD d Go.undef = v := by rw [sG hd, if_pos rfl]
theorem zf {a : Act} {d : Nat} {v : Value} (s : Nat) (h : ¬ s = d) : (a.put (some d) v).tmps.getD s Go.undef = a.tmps.getD s Go.undef := by
  simp only [Act.put, Array.getD_eq_getD_getElem?]
  rw [Array.getElem?_setIfInBounds_ne (fun e => h e.symm)]

end Go.Proofs.YtbnmhjobnepajaaGreat.M


namespace Go.Proofs.YtbnmhjobnepajaaGreat.M

def JX (P : Program) : Kd → List Field → Nat → Bool
  | .unit, [], _ => true
  | .pair a b, f :: fs, i => Nat.beq f.offset i && (!(f.name == "_") && (pO a (P.underlying f.type) && JX P b fs (i + 1)))
  | _, _, _ => false

def VS : (k : Kd) → k.den → k.den → Bool
  | .pair a b, x, y => tZ a x.1 y.1 && VS b x.2 y.2
  | _, _, _ => true

section
variable {P : Program} {w : World} {G : Gh} {T T' : Tabs} {Ls : List LS} {a : Act} {N : Nat} {E : Env} {ops : Array Oper} {Q : Exit → Act → World → Prop}

theorem TI {k : Kd} {o : Option TypeDesc} (h : pO k o = true) : ∃ d, o = some d ∧ ((∃ i, d = .int i) ∨ d = .bool ∨ d = .string) ∧ k.agg = false := by
  unfold pO at h
  split at h
  · exact ⟨_, rfl, .inl ⟨_, rfl⟩, rfl⟩
  · exact ⟨_, rfl, .inr (.inr rfl), rfl⟩
  · exact ⟨_, rfl, .inr (.inl rfl), rfl⟩
  · cases h

theorem MX {ty : TypeId} {d : TypeDesc} {n : Nat} {u v : Value} {b : Bool} (hd : P.underlying ty = some d) (hk : (∃ i, d = .int i) ∨ d = .bool ∨ d = .string) (h : Instr.sameNow d u v = some b) (w : World) : (Op.equalIn (n + 1) ty u v).run P w = .ok b w := by
  rcases hk with ⟨k, rfl⟩ | rfl | rfl
  · cases u <;> cases v <;> first | (simp [Instr.sameNow] at h; done) | skip
    rename_i k1 a k2 b'
    simp only [Instr.sameNow] at h
    split at h
    · rename_i e
      subst e
      simp only [Option.some.injEq] at h; subst h
      unfold Op.equalIn
      rw [bM hd]
      simp
    · cases h
  · cases u <;> cases v <;> first | (simp [Instr.sameNow] at h; done) | skip
    simp only [Instr.sameNow, Option.some.injEq] at h; subst h
    unfold Op.equalIn
    rw [bM hd]; rfl
  · cases u <;> cases v <;> first | (simp [Instr.sameNow] at h; done) | skip
    simp only [Instr.sameNow, Option.some.injEq] at h; subst h
    unfold Op.equalIn
    rw [bM hd]; rfl

theorem abN {ty : TypeId} {d : TypeDesc} (hd : P.underlying ty = some d) (hk : (∃ i, d = .int i) ∨ d = .bool ∨ d = .string) (w : World) : (isAgg ty).run P w = .ok false w := by
  unfold isAgg
  rw [bM hd]
  rcases hk with ⟨k, rfl⟩ | rfl | rfl <;> rfl

theorem XX : ∀ {k : Kd} {fs : List Field} {i : Nat} {x y : k.den} {X Y : List Value}, JX P k fs i = true → Kr G k x (X.drop i) → Kr G k y (Y.drop i) → ∀ w n, (Op.eqFields (n + 1) ⟨X⟩ ⟨Y⟩ fs).run P w = .ok (VS k x y) w
  | .unit, [], i, x, y, X, Y, _, _, _, w, n => rfl
  | .pair ka kb, f :: fs, i, x, y, X, Y, h, hx, hy, w, n => by
    unfold JX at h
    simp only [Bool.and_eq_true] at h
    obtain ⟨h1, h2, h3, h4⟩ := h
    have ho := Nat.eq_of_beq_eq_true h1
    have hn : f.name ≠ "_" := by simpa using h2
    obtain ⟨d, hd, hk, hag⟩ := TI h3
    rw [hd] at h3
    obtain ⟨c1, c2, e1, r1, r2⟩ := hx
    obtain ⟨d1, d2, e2, s1, s2⟩ := hy
    obtain ⟨u, rfl, hu⟩ := Oz r1 hag
    obtain ⟨v, rfl, hv⟩ := Oz s1 hag
    have hsn := GR h3 hu hv
    have g : ∀ (Z : List Value) (z : Value) (r : List Value), Z.drop i = [z] ++ r → Z[i]? = some z ∧ Z.drop (i + 1) = r := by
      intro Z z r hz
      refine ⟨?_, ?_⟩
      · have : (Z.drop i)[0]? = some z := by rw [hz]; rfl
        rw [List.getElem?_drop] at this; exact this
      · rw [← List.drop_drop, hz]; rfl
    obtain ⟨x1, x2⟩ := g X u c2 e1
    obtain ⟨y1, y2⟩ := g Y v d2 e2
    have prt : ∀ (Z : List Value) (z : Value) (w : World), Z[i]? = some z → (part f.type ⟨Z⟩ f.offset).run P w = .ok z w := by
      intro Z z w hz
      rw [ho]
      simp [part, abN hd hk, hz]
    have ih := XX (n := n) (w := w) h4 (by rw [x2]; exact r2) (by rw [y2]; exact s2)
    show (Op.eqFields (n + 1) ⟨X⟩ ⟨Y⟩ (f :: fs)).run P w = .ok (tZ ka x.1 y.1 && VS kb x.2 y.2) w
    unfold Op.eqFields
    cases hb : tZ ka x.1 y.1 with
    | false =>
      rw [hb] at hsn
      simp [hn, prt X u w x1, prt Y v w y1, MX hd hk hsn]
    | true =>
      rw [hb] at hsn
      simp [hn, prt X u w x1, prt Y v w y1, MX hd hk hsn, ih]
  | .unit, _ :: _, i, x, y, X, Y, h, _, _, w, n => by cases h
  | .pair _ _, [], i, x, y, X, Y, h, _, _, w, n => by cases h
  | .int _, _, i, x, y, X, Y, h, _, _, w, n => by cases h
  | .bool, _, i, x, y, X, Y, h, _, _, w, n => by cases h
  | .str, _, i, x, y, X, Y, h, _, _, w, n => by cases h
  | .ptr _, _, i, x, y, X, Y, h, _, _, w, n => by cases h
  | .list _, _, i, x, y, X, Y, h, _, _, w, n => by cases h

def abq (P : Program) (ops : Array Oper) (E : Env) (i : Nat) : Option (Bool × Option Nat) :=
  match ops[i]? with
  | some o => (match goes ops (look E []) o, o.op with
    | true, .binOp op t x y _ => (match P.underlying t, gz (look E []) [] x, gz (look E []) [] y with
      | some (.struct fs), some (.kv k u), some (.kv k' v) => if h : k' = k then
          (match k.agg && (JX P k fs.toList 0 && (!(P.stoodInHeld t) && !(P.eqGuardType P.depth t))), op with
          | true, .eql => some (VS k u (h ▸ v), o.dst)
          | true, .neq => some (!(VS k u (h ▸ v)), o.dst)
          | _, _ => none) else none
      | _, _, _ => none)
    | _, _ => none)
  | none => none

theorem aag {i : Nat} {b : Bool} {d : Option Nat} (hE : dD G N a E) (hb : abq P ops E i = some (b, d)) :
    ∃ o, ops[i]? = some o ∧ goes ops (look E []) o = true ∧ o.dst = d ∧ (execOp a.eval o).run P w = .ok (.value (.bool b)) w := by
  unfold abq at hb
  split at hb
  · rename_i o ho
    split at hb
    · rename_i op t x y q hg hop
      split at hb
      · rename_i fs k u k' v hu hx hy
        split at hb
        · rename_i hk
          subst hk
          have key : (k'.agg && (JX P k' fs.toList 0 && (!(P.stoodInHeld t) && !(P.eqGuardType P.depth t)))) = true → ∃ X Y : Array Value, a.eval x = .agg X ∧ a.eval y = .agg Y ∧ (∀ op w, (eqGuard op t x y (.agg X) (.agg Y)).run P w = .ok () w) ∧ ∀ w, (Op.equalIn 10000 t (.agg X) (.agg Y)).run P w = .ok (VS k' u v) w := by
            intro hc
            simp only [Bool.and_eq_true, Bool.not_eq_true'] at hc
            obtain ⟨c1, c2, c3, c4⟩ := hc
            have e1 : VR G k' u (a.eval x) := dG (aI hE) (by simp) hx
            have e2 : VR G k' v (a.eval y) := dG (aI hE) (by simp) hy
            unfold VR at e1 e2
            rw [c1] at e1 e2
            obtain ⟨X, hX, rX⟩ := e1
            obtain ⟨Y, hY, rY⟩ := e2
            have hfo : P.fieldsOf t = fs := by unfold Program.fieldsOf; rw [hu]
            refine ⟨X, Y, hX, hY, fun op w => run_eqGuard_agg w op t x y X Y c4, fun w => ?_⟩
            have hq := run_equalIn_struct (P := P) w 9999 t X Y (by rw [hfo]; exact hu) c3
            rw [hfo] at hq
            rw [hq]
            exact XX (X := X.toList) (Y := Y.toList) (i := 0) c2 rX rY w 9998
          split at hb
          · rename_i hc
            obtain ⟨X, Y, hX, hY, hgd, hq⟩ := key hc
            simp only [Option.some.injEq, Prod.mk.injEq] at hb
            obtain ⟨rfl, rfl⟩ := hb
            refine ⟨o, ho, hg, rfl, ?_⟩
            simp only [execOp, hop]
            refine dA ?_
            rw [hX, hY]
            simp only [Sem.run_bind, hgd, Result.andThen_ok, run_eql_struct, hq]
          · rename_i hc
            obtain ⟨X, Y, hX, hY, hgd, hq⟩ := key hc
            simp only [Option.some.injEq, Prod.mk.injEq] at hb
            obtain ⟨rfl, rfl⟩ := hb
            refine ⟨o, ho, hg, rfl, ?_⟩
            simp only [execOp, hop]
            refine dA ?_
            rw [hX, hY]
            simp only [Sem.run_bind, hgd, Result.andThen_ok, run_neq_struct, hq]
          · cases hb
        · cases hb
      · cases hb
    · cases hb
  · cases hb

end
end Go.Proofs.YtbnmhjobnepajaaGreat.M


namespace Go.Proofs.YtbnmhjobnepajaaGreat.M

section
variable {P : Program} {w : World} {G : Gh} {T T' : Tabs} {Ls L : List LS} {a : Act} {N : Nat} {E : Env} {ops : Array Oper} {Q : Exit → Act → World → Prop}

theorem E5 {l : LS} (hn : ∀ t i f, aK t i f [l] = none) : ∀ {L : List LS} {j : Nat}, L[j]? = some l → ∀ t i f, aK t i f (L.eraseIdx j) = aK t i f L
  | [], j, h, t, i, f => by simp at h
  | x :: L, 0, h, t, i, f => by
    obtain rfl : x = l := by simpa using h
    exact (fD hn _ _ _ _).symm
  | x :: L, j + 1, h, t, i, f => by
    have ih := E5 hn (L := L) (j := j) (by simpa using h) t i f
    rw [List.eraseIdx_cons_succ]
    cases x <;> simp only [aK, ih]

theorem J4 {l : LS} : ∀ {L : List LS} {j : Nat}, L[j]? = some l → (l :: L.eraseIdx j).Perm L
  | [], j, h => by simp at h
  | x :: L, 0, h => by
    obtain rfl : x = l := by simpa using h
    exact List.Perm.refl _
  | x :: L, j + 1, h => by
    have ih := J4 (L := L) (j := j) (l := l) (by simpa using h)
    rw [List.eraseIdx_cons_succ]
    exact (List.Perm.swap x l _).trans (List.Perm.cons x ih)

theorem Holds.front (h : Holds w G T L) (j : Nat) {l : LS} (hj : L[j]? = some l) (hn : ∀ t i f, aK t i f [l] = none) : Holds w G T (l :: L.eraseIdx j) := by
  have hp := J4 hj
  refine h.change (fun _ => False) (Gh.le_refl G) ⟨rfl, rfl, rfl⟩ h.free (fun b _ => ⟨rfl, rfl⟩) (fun _ hb => hb.elim) ?_ (fun l' hl => h.loc l' (hp.mem_iff.1 hl)) ?_ h.ex h.inj h.finj h.fex
  · intro b t i _ _ tab x cs h1 h2 h3
    exact ⟨tab, x, h1, h2, bQ (w := w) (L := L) (Gh.le_refl G) (fun f => by rw [fD hn]; exact E5 hn hj _ _ _) (fun _ _ _ => ⟨rfl, rfl⟩) h3⟩
  · exact (hp.filterMap _).nodup_iff.2 h.nd

variable {D : List En} {loud : List Nat} {G0 : Gh} {Tk : Nat → Tabs} {Lk : Nat → Act → List LS}

theorem Zr {t j off : Nat} {fs : List Fk} {x : az fs} {g e bt : Nat} {q : KL} {d : Option Nat} {i : Nat} {Ls : List LS} (hE : dD G N a E) (hH : Holds w G T Ls) (hN : aN Ls) (hb : abP P ops E i = some (t, j, off, d)) (ho : og T t j fs x) (hown : wB fs x off 0 = some (g, e, bt, q)) :
    ∃ o v G', ops[i]? = some o ∧ goes ops (look E []) o = true ∧ o.dst = d ∧ (execOp a.eval o).run P w = .ok (.value v) w ∧ G.le G' ∧ VR G' (.list q.k) q.xs v ∧ Holds w G' T (.tk v e bt q.k q.xs :: .hole t j g v :: Ls) := by
  unfold abP at hb
  split at hb
  · rename_i o ho'
    split at hb
    · rename_i ty y hg hop
      split at hb
      · rename_i t' j' off' hs hag hx
        simp only [Option.some.injEq, Prod.mk.injEq] at hb
        obtain ⟨rfl, rfl, rfl, rfl⟩ := hb
        obtain ⟨b, hrb, hv⟩ := dG (aI hE) (by simp) hx
        obtain ⟨v, G', ce, tb, hh, hc, hle, hvr, hH'⟩ := hH.take hrb ho hown (hN _ _ _)
        refine ⟨o, v, G', ho', hg, rfl, ?_, hle, hvr, hH'⟩
        simp only [execOp, hop, hv]
        exact dA (PR (P := P) (w := w) hs hag hh hc)
      · cases hb
    · cases hb
  · cases hb

end
end Go.Proofs.YtbnmhjobnepajaaGreat.M


namespace Go.Proofs.YtbnmhjobnepajaaGreat.M

def gb {α β : Type} (g : Option Bool) (x : Option α) (d : α) (k : α → Option β) : Option β :=
  match g with
  | none => x.bind k
  | some b => (if b = true then x else some d).bind k

def gp {β : Type} (g : Option Bool) (p : Prop) [Decidable p] (k : Option β) : Option β :=
  match g with
  | none => if p then k else none
  | some b => if (b = true → p) then k else none

def goB (g : Option Bool) : Prop := g ≠ some false

theorem qH {α β : Type} {g : Option Bool} {x : Option α} {d : α} {k : α → Option β} {r : β} (h : gb g x d k = some r) : ∃ y, (goB g → x = some y) ∧ k y = some r := by
  unfold gb at h
  split at h
  · obtain ⟨y, h1, h2⟩ := Option.bind_eq_some_iff.1 h
    exact ⟨y, fun _ => h1, h2⟩
  · rename_i b
    obtain ⟨y, h1, h2⟩ := Option.bind_eq_some_iff.1 h
    refine ⟨y, fun hg => ?_, h2⟩
    cases b with
    | true => simpa using h1
    | false => exact absurd rfl hg

theorem jq {β : Type} {g : Option Bool} {p : Prop} [Decidable p] {k : Option β} {r : β} (h : gp g p k = some r) : (goB g → p) ∧ k = some r := by
  unfold gp at h
  split at h
  · split at h
    · rename_i hp; exact ⟨fun _ => hp, h⟩
    · simp at h
  · rename_i b
    split at h
    · rename_i hp
      refine ⟨fun hg => ?_, h⟩
      cases b with
      | true => exact hp rfl
      | false => exact absurd rfl hg
    · simp at h

def ab8 : (f : Fk) → f.den
  | .p k => fB k
  | .own _ _ _ => []
  | .omap _ _ => []
def yC : (fs : List Fk) → az fs
  | [] => ()
  | f :: r => (ab8 f, yC r)

instance (n : Nat) (lo hi : Option Int) : Decidable (slB n lo hi) :=
  match lo, hi with
  | none, none => isTrue trivial
  | some a, none => inferInstanceAs (Decidable (0 ≤ a ∧ a ≤ n))
  | none, some b => inferInstanceAs (Decidable (0 ≤ b ∧ b ≤ n))
  | some a, some b => inferInstanceAs (Decidable (0 ≤ a ∧ a ≤ b ∧ b ≤ n))

section
variable {β : Type}

def EM (P : Program) (T : Tabs) (hn : Bool) (g : Option Bool) (ty : TypeId) (e : En) (k : En → Option β) : Option β :=
  match fA P ty, AB P ty with
  | some sz, some ag => (match e with
    | .elA kk y off => (match F9 ag sz kk y off with
      | some ⟨k', z⟩ => k (.kv k' z)
      | none => none)
    | .fldA t i off => (match T t with
      | some ⟨fs, xs⟩ => gb g xs[i]? (yC fs) fun x => (match JY ag sz fs x off 0 with
        | some (.p ⟨k', z⟩) => k (.kv k' z)
        | some (.own _ k' ys) => (match hn with
          | true => k (.kv (.list k') ys)
          | false => none)
        | some (.mp f) => k (.fm t i f)
        | none => none)
      | none => none)
    | _ => none)
  | _, _ => none

def dIx (P : Program) (g : Option Bool) (ty : TypeId) (x : En) (n : Int) (k : En → Option β) : Option β :=
  match P.underlying ty with
  | some (.slice el) => (match x with
    | .kv (.list k0) xs => (match fA P el with
      | some sz => (match Nat.beq sz k0.w && Nat.blt 0 k0.w with
        | true => gb g (ix xs n) (fB k0) fun y => k (.elA k0 y 0)
        | false => none)
      | none => none)
    | _ => none)
  | _ => none

def dSl (P : Program) (g : Option Bool) (ty : TypeId) (x : En) (lo hi : Option Int) (k : En → Option β) : Option β :=
  match P.underlying ty, x with
  | some .string, .kv .str s => gp g (slB s.length lo hi) (k (.kv .str (slL s lo hi)))
  | some (.slice el), .kv (.list k0) xs => (match fA P el with
    | some sz => (match Nat.beq sz k0.w with
      | true => gp g (slB xs.length lo hi) (k (.kv (.list k0) (slL xs lo hi)))
      | false => none)
    | none => none)
  | _, _ => none

def VJ (P : Program) (g : Option Bool) (op : BinOp) (t : TypeId) (x y : En) (k : En → Option β) : Option β :=
  match op, x, y with
  | .quo, .kv (.int k0) a, .kv (.int k') b => if k0 = k' then gp g (b ≠ 0) (k (.kv (.int k0) (k0.wrap (a.tdiv b)))) else none
  | .rem, .kv (.int k0) a, .kv (.int k') b => if k0 = k' then gp g (b ≠ 0) (k (.kv (.int k0) (a.tmod b))) else none
  | .shl, .kv (.int k0) a, .kv (.int _) b => gp g (0 ≤ b) (k (.kv (.int k0) (k0.wrap (a * 2 ^ (min b.toNat k0.bits)))))
  | .shr, .kv (.int k0) a, .kv (.int _) b => gp g (0 ≤ b) (k (.kv (.int k0) (a.fdiv (2 ^ (min b.toNat k0.bits)))))
  | .add, .kv .str a, .kv .str b => gp g (a.length + b.length ≤ 9223372036854775807) (k (.kv .str (a ++ b)))
  | op, x, y => (match bop P op t x y with
    | some e => k e
    | none => none)

def JA (T : Tabs) (g : Option Bool) (e : En) (k : MP → Option β) : Option β :=
  match e with
  | .fm t i f => (match T t with
    | some ⟨fs, xs⟩ => gb g xs[i]? (yC fs) fun x => (match FP fs x f with
      | some mp => k mp
      | none => none)
    | none => none)
  | _ => none

def Jz (P : Program) (ty : TypeId) (ok : Bool) (kk : Kd) (key : kk.den) (mp : MP) (k : En → Option β) : Option β :=
  if h : kk = mp.kk then (match U2 P ty ok mp.kk mp.kv (h ▸ key) mp.m with
    | some r => k r
    | none => none) else none

def dLen (P : Program) (T : Tabs) (g : Option Bool) (M : Operand → Option En) (LM : Operand → Option MP) (op : Op) (k : En → Option β) : Option β :=
  match op with
  | .call c => (match c.callee, c.args.toList, c.argTypes.toList with
    | .builtin .len, [x], [t] => (match P.underlying t with
      | some (.map _ _) => (match LM x with
        | some mp => k (.kv (.int .i64) (mp.m.length : Int))
        | none => (match M x with
          | some e => JA T g e fun mp => k (.kv (.int .i64) (mp.m.length : Int))
          | none => none))
      | _ => none)
    | _, _, _ => none)
  | _ => none

def dev (P : Program) (T : Tabs) (hn : Bool) (g : Option Bool) (M : Operand → Option En) (LM : Operand → Option MP) (op : Op) (k : En → Option β) : Option β :=
  match op with
  | .nilCheck x => (match M x with
    | some (.kv (.ptr t) p) => gb g p 0 fun i => k (.kv (.ptr t) (some i))
    | some e => (match YW e with
      | some e' => k e'
      | none => none)
    | none => none)
  | .load ty x => (match M x with
    | some e => EM P T hn g ty e k
    | none => none)
  | .indexAddr ty x i => (match M x, M i with
    | some e, some (.kv (.int _) n) => dIx P g ty e n k
    | _, _ => none)
  | .index ty x i => (match P.underlying ty, M x, M i with
    | some .string, some (.kv .str s), some (.kv (.int _) n) => gp g (0 ≤ n ∧ n < s.length) (k (.kv (.int .u8) (btS s n)))
    | _, _, _ => none)
  | .slice ty x lo hi none => (match M x, TQ M lo, TQ M hi with
    | some e, some a, some b => dSl P g ty e a b k
    | _, _, _ => none)
  | .binOp op t x y _ => (match M x, M y with
    | some a, some b => VJ P g op t a b k
    | _, _ => none)
  | .lookup ty x i ok => (match M i with
    | some (.kv kk key) => (match LM x with
      | some mp => Jz P ty ok kk key mp k
      | none => (match M x with
        | some e => JA T g e fun mp => Jz P ty ok kk key mp k
        | none => none))
    | _ => none)
  | .convert src dst x => (match M x with
    | some e => (match cnv P src dst e with
      | some r => k r
      | none => (match P.underlying src, P.underlying dst with
        | some (.slice e0), some .string => (match P.underlying e0, u8L e with
          | some (.int .u8), some xs => k (.kv .str (bT xs))
          | _, _ => none)
        | _, _ => none))
    | none => none)
  | op => (match pev P M op with
    | some e => k e
    | none => dLen P T g M LM op k)
end

section
variable {β : Type} {P : Program} {w : World} {G : Gh} {T : Tabs} {L : List LS} {g : Option Bool} {hn : Bool} {r : β} {ρ : Operand → Value} {M : Operand → Option En} {LM : Operand → Option MP}

theorem og.of {t i : Nat} {fs : List Fk} {xs : List (az fs)} {x : az fs} (h1 : T t = some ⟨fs, xs⟩) (h2 : xs[i]? = some x) : og T t i fs x := ⟨xs, h1, h2⟩

theorem XJ {ty : TypeId} {e : En} {k : En → Option β} (h : EM P T hn g ty e k = some r) :
    ∃ e', k e' = some r ∧ (goB g → ∀ L : List LS, (hn = true → ∀ t i f, aK t i f L = none) → ∃ A O, Be P T L ty e A = some (e', O, []) ∧ wP O) := by
  unfold EM at h
  split at h
  · rename_i sz ag hs ha
    split at h
    · rename_i kk y off
      split at h
      · rename_i k' z hk
        exact ⟨_, h, fun _ L hN => ⟨[], [], by simp [Be, hs, ha, hk], trivial⟩⟩
      · simp at h
    · rename_i t i off
      split at h
      · rename_i fs xs ht
        obtain ⟨x, h1, h2⟩ := qH h
        split at h2
        · rename_i k' z hf
          exact ⟨_, h2, fun hg L hN => ⟨[.ob fs x], [og T t i fs x], by simp [Be, hs, ha, hf], og.of ht (h1 hg), trivial⟩⟩
        · rename_i f k' ys hf
          split at h2
          · exact ⟨_, h2, fun hg L hN => ⟨[.ob fs x], [og T t i fs x, aK t i f L = none], by simp [Be, hs, ha, hf], og.of ht (h1 hg), hN rfl _ _ _, trivial⟩⟩
          · simp at h2
        · rename_i f hf
          exact ⟨_, h2, fun hg L hN => ⟨[.ob fs x], [og T t i fs x], by simp [Be, hs, ha, hf], og.of ht (h1 hg), trivial⟩⟩
        · simp at h2
      · simp at h
    · simp at h
  · simp at h

theorem aa9 {ty : TypeId} {x : En} {n : Int} {k : En → Option β} (h : dIx P g ty x n k = some r) : ∃ e', k e' = some r ∧ (goB g → ∃ A O, X3 P ty x n A = some (e', O, []) ∧ wP O) := by
  unfold dIx at h
  split at h
  · rename_i el hu
    split at h
    · rename_i k0 xs
      split at h
      · rename_i sz hs
        split at h
        · rename_i hc
          obtain ⟨y, h1, h2⟩ := qH h
          exact ⟨_, h2, fun hg => ⟨[.ix k0 y], [Jl k0 xs n k0 y], by simp [X3, hu, hs, hc], Jl.of (h1 hg), trivial⟩⟩
        · simp at h
      · simp at h
    · simp at h
  · simp at h

theorem abe {ty : TypeId} {x : En} {lo hi : Option Int} {k : En → Option β} (h : dSl P g ty x lo hi k = some r) : ∃ e', k e' = some r ∧ (goB g → ∃ O, VT P ty x lo hi [] = some (e', O, []) ∧ wP O) := by
  unfold dSl at h
  split at h
  · rename_i s hu
    obtain ⟨h1, h2⟩ := jq h
    exact ⟨_, h2, fun hg => ⟨[slB s.length lo hi], by simp [VT, hu], h1 hg, trivial⟩⟩
  · rename_i el k0 xs hu
    split at h
    · rename_i sz hs
      split at h
      · rename_i hc
        obtain ⟨h1, h2⟩ := jq h
        exact ⟨_, h2, fun hg => ⟨[slB xs.length lo hi], by simp [VT, hu, hs, hc], h1 hg, trivial⟩⟩
      · simp at h
    · simp at h
  · simp at h

theorem ZR {op : BinOp} {t : TypeId} {x y : En} {k : En → Option β} (h : VJ P g op t x y k = some r) : ∃ e', k e' = some r ∧ (goB g → ∃ O, DD P op t x y [] = some (e', O, []) ∧ wP O) := by
  unfold VJ at h
  split at h
  · split at h
    · rename_i hk
      obtain ⟨h1, h2⟩ := jq h
      exact ⟨_, h2, fun hg => ⟨[_], by simp only [DD]; rw [if_pos hk], h1 hg, trivial⟩⟩
    · simp at h
  · split at h
    · rename_i hk
      obtain ⟨h1, h2⟩ := jq h
      exact ⟨_, h2, fun hg => ⟨[_], by simp only [DD]; rw [if_pos hk], h1 hg, trivial⟩⟩
    · simp at h
  · obtain ⟨h1, h2⟩ := jq h
    exact ⟨_, h2, fun hg => ⟨[_], by simp only [DD], h1 hg, trivial⟩⟩
  · obtain ⟨h1, h2⟩ := jq h
    exact ⟨_, h2, fun hg => ⟨[_], by simp only [DD], h1 hg, trivial⟩⟩
  · obtain ⟨h1, h2⟩ := jq h
    exact ⟨_, h2, fun hg => ⟨[_], by simp only [DD], h1 hg, trivial⟩⟩
  · rename_i c1 c2 c3 c4 c5
    split at h
    · rename_i e he
      refine ⟨e, h, fun hg => ⟨[], ?_, trivial⟩⟩
      unfold DD
      split
      · exact (c1 _ _ _ _ rfl rfl rfl).elim
      · exact (c2 _ _ _ _ rfl rfl rfl).elim
      · exact (c3 _ _ _ _ rfl rfl rfl).elim
      · exact (c4 _ _ _ _ rfl rfl rfl).elim
      · exact (c5 _ _ rfl rfl rfl).elim
      · rw [he]
    · simp at h

theorem UA {e : En} {k : MP → Option β} (h : JA T g e k = some r) : ∃ mp, k mp = some r ∧ (goB g → ∀ L : List LS, ∃ A O, (∀ A', Na T L e (A ++ A') = some (mp, O, A')) ∧ wP O) := by
  unfold JA at h
  split at h
  · rename_i t i f
    split at h
    · rename_i fs xs ht
      obtain ⟨x, h1, h2⟩ := qH h
      split at h2
      · rename_i mp hm
        exact ⟨mp, h2, fun hg L => ⟨[.ob fs x], [og T t i fs x], fun A' => by simp [Na, hm], og.of ht (h1 hg), trivial⟩⟩
      · simp at h2
    · simp at h
  · simp at h

def LmR (G : Gh) (w : World) (mp : MP) (v : Value) : Prop := ∃ r es cl, v = .map (some r) ∧ w.heap[r]? = some (.map es cl) ∧ yz G mp.kk mp.kv mp.m es.toList cl

structure Rd (P : Program) (T : Tabs) (hn : Bool) (M : Operand → Option En) (LM : Operand → Option MP) (w : World) (G : Gh) (L : List LS) (ρ : Operand → Value) : Prop where
  hH : Holds w G T L
  hN : hn = true → ∀ t i f, aK t i f L = none
  hM : ∀ x e, M x = some e → EnR G e (ρ x)
  hLM : ∀ x mp, LM x = some mp → LmR G w mp (ρ x)

theorem Ia {o : Oper} {c : Call} {x : Operand} {t kt et : TypeId} {mp : MP} (hop : o.op = .call c) (hcal : c.callee = .builtin .len) (hargs : c.args.toList = [x]) (hts : c.argTypes.toList = [t]) (hu : P.underlying t = some (.map kt et))
    (hm : LmR G w mp (ρ x)) : ∃ v, (execOp ρ o).run P w = .ok (.value v) w ∧ EnR G (.kv (.int .i64) (mp.m.length : Int)) v := by
  obtain ⟨rr, es, cl, hv, hh, hm⟩ := hm
  have hop' : o.op = .call { callee := .builtin .len, args := #[x], argTypes := #[t] } := by
    rw [hop]
    congr 1
    cases c with
    | mk ca ar at_ =>
      simp only at hcal hargs hts
      subst hcal
      congr 1
      · rw [← hargs]
      · rw [← hts]
  have hgo : (getObj rr).run P w = .ok (.map es cl) w := by simp [getObj, Sem.run, hh]
  have hlen : es.size = mp.m.length := by rw [← Array.length_toList]; exact hm.1.length.symm
  refine ⟨goInt es.size, ?_, by rw [hlen]; exact mkI⟩
  simp [execOp, hop', resolve, invoke, builtin, Builtin.len_, hv, bM hu, hgo]

theorem ZX {o : Oper} {k : En → Option β} (h : dLen P T g M LM o.op k = some r) :
    ∃ e, k e = some r ∧ (goB g → ∀ {w G L ρ}, Rd P T hn M LM w G L ρ → ∃ v, (execOp ρ o).run P w = .ok (.value v) w ∧ EnR G e v) := by
  unfold dLen at h
  split at h
  · rename_i c hop
    split at h
    · rename_i x t hcal hargs hts
      split at h
      · rename_i kt et hu
        split at h
        · rename_i mp hx
          exact ⟨_, h, fun hg w G L ρ hR => Ia hop hcal hargs hts hu (hR.hLM _ _ hx)⟩
        · split at h
          · rename_i e hx
            obtain ⟨mp, h1, h2⟩ := UA h
            refine ⟨_, h1, fun hg w G L ρ hR => ?_⟩
            obtain ⟨A, O, h3, h4⟩ := h2 hg L
            exact Ia hop hcal hargs hts hu (ES hR.hH (hR.hM _ _ hx) (h3 []) h4)
          · simp at h
      · simp at h
    · simp at h
  · simp at h

theorem Qn {ty : TypeId} {ok : Bool} {kk : Kd} {key : kk.den} {mp : MP} {k : En → Option β} (h : Jz P ty ok kk key mp k = some r) :
    ∃ e, k e = some r ∧ ∀ {w : World} {G : Gh} u v, VR G kk key u → LmR G w mp v → ∃ z, (Instr.lookup ty v u ok).run P w = .ok z w ∧ EnR G e z := by
  unfold Jz at h
  split at h
  · rename_i hkk
    subst hkk
    split at h
    · rename_i e he
      refine ⟨e, h, fun {w G} u v hu hm => ?_⟩
      obtain ⟨rr, es, cl, rfl, hh, hm⟩ := hm
      exact QW (P := P) he hh hm.1 hu
    · simp at h
  · simp at h

theorem XP {o : Oper} {k : En → Option β}
    (h : dev P T hn g M LM o.op k = some r) : ∃ e, k e = some r ∧ (goB g → ∀ {w G L ρ}, Rd P T hn M LM w G L ρ → ∃ v, (execOp ρ o).run P w = .ok (.value v) w ∧ EnR G e v) := by
  unfold dev at h
  split at h
  · rename_i x hop
    split at h
    · rename_i t p hx
      obtain ⟨i, h1, h2⟩ := qH h
      refine ⟨_, h2, fun hg w G L ρ hR => ?_⟩
      have hv := hR.hM _ _ hx
      rw [h1 hg] at hv
      obtain ⟨u, hu, b, rfl, hb⟩ := unP hv
      exact ⟨ρ x, by simp [execOp, hop, hu], hv⟩
    · rename_i e0 _ hx
      split at h
      · rename_i e1 hn
        refine ⟨_, h, fun hg w G L ρ hR => ?_⟩
        obtain ⟨h1, h2⟩ := Py (hR.hM _ _ hx) hn
        refine ⟨ρ x, ?_, h1⟩
        rcases h2 with ⟨a, ha⟩ | ⟨f, b, c, ha⟩ <;> simp [execOp, hop, ha]
      · simp at h
    · simp at h
  · rename_i ty x hop
    split at h
    · rename_i e0 hx
      obtain ⟨e, h1, h2⟩ := XJ h
      refine ⟨e, h1, fun hg w G L ρ hR => ?_⟩
      obtain ⟨A, O, h3, h4⟩ := h2 hg L hR.hN
      obtain ⟨u, h5, h6⟩ := MZ (P := P) hR.hH (hR.hM _ _ hx) h3 h4
      exact ⟨u, by simp only [execOp, hop]; exact dA h5, h6⟩
    · simp at h
  · rename_i ty x i hop
    split at h
    · rename_i e0 kn n hx hi
      obtain ⟨e, h1, h2⟩ := aa9 h
      refine ⟨e, h1, fun hg w G L ρ hR => ?_⟩
      obtain ⟨A, O, h3, h4⟩ := h2 hg
      have hn := unI (hR.hM _ _ hi)
      obtain ⟨u, h5, h6⟩ := UN (P := P) (w := w) (kn := kn) (hR.hM _ _ hx) h3 h4
      exact ⟨u, by simp only [execOp, hop, hn]; exact dA h5, h6⟩
    · simp at h
  · rename_i ty x i hop
    split at h
    · rename_i s kn n hu hx hi
      obtain ⟨h1, h2⟩ := jq h
      refine ⟨_, h2, fun hg w G L ρ hR => ?_⟩
      have hs := unS (hR.hM _ _ hx)
      have hn := unI (hR.hM _ _ hi)
      exact ⟨_, by simp only [execOp, hop, hs, hn]; exact dA (Ny hu (h1 hg)), mkI⟩
    · simp at h
  · rename_i ty x lo hi hop
    split at h
    · rename_i e0 a b hx hlo hhi
      obtain ⟨e, h1, h2⟩ := abe h
      refine ⟨e, h1, fun hg w G L ρ hR => ?_⟩
      obtain ⟨O, h3, h4⟩ := h2 hg
      obtain ⟨k1, hk1⟩ := I5 hR.hM hlo
      obtain ⟨k2, hk2⟩ := I5 hR.hM hhi
      obtain ⟨u, h5, h6⟩ := UO (P := P) (w := w) (k1 := k1) (k2 := k2) (hR.hM _ _ hx) h3 h4
      exact ⟨u, by simp only [execOp, hop, hk1, hk2, Option.map_none]; exact dA h5, h6⟩
    · simp at h
  · rename_i op t x y ty hop
    split at h
    · rename_i ex ey hx hy
      obtain ⟨e, h1, h2⟩ := ZR h
      refine ⟨e, h1, fun hg w G L ρ hR => ?_⟩
      obtain ⟨O, h3, h4⟩ := h2 hg
      obtain ⟨v, h5, h6⟩ := Qx (P := P) (w := w) (hR.hM _ _ hx) (hR.hM _ _ hy) h3 h4 x y
      exact ⟨v, by simp only [execOp, hop]; exact dA h5, h6⟩
    · simp at h
  · rename_i ty x i ok hop
    split at h
    · rename_i kk key hi
      split at h
      · rename_i mp hx
        obtain ⟨e, h1, h2⟩ := Qn h
        refine ⟨e, h1, fun hg w G L ρ hR => ?_⟩
        obtain ⟨z, h3, h4⟩ := h2 _ _ (hR.hM _ _ hi) (hR.hLM _ _ hx)
        exact ⟨z, by simp only [execOp, hop]; exact dA h3, h4⟩
      · split at h
        · rename_i e0 hx
          obtain ⟨mp, h1, h2⟩ := UA h
          obtain ⟨e, h3, h4⟩ := Qn h1
          refine ⟨e, h3, fun hg w G L ρ hR => ?_⟩
          obtain ⟨A, O, h5, h6⟩ := h2 hg L
          obtain ⟨z, h7, h8⟩ := h4 _ _ (hR.hM _ _ hi) (ES hR.hH (hR.hM _ _ hx) (h5 []) h6)
          exact ⟨z, by simp only [execOp, hop]; exact dA h7, h8⟩
        · simp at h
    · simp at h
  · rename_i src dst x hop
    split at h
    · rename_i e0 hx
      split at h
      · rename_i e1 hc
        refine ⟨e1, h, fun hg w G L ρ hR => ?_⟩
        obtain ⟨u, h1, h2⟩ := SL (P := P) (hR.hM _ _ hx) hc
        exact ⟨u, by simp only [execOp, hop]; exact dA (h1 w), h2⟩
      · split at h
        · rename_i e1 hu1 hu2
          split at h
          · rename_i xs hu3 hxs
            refine ⟨_, h, fun hg w G L ρ hR => ?_⟩
            obtain ⟨u, h1, h2⟩ := Qy (P := P) (A := []) (A' := []) (O := []) (e := .kv .str (bT xs)) hR.hH (src := src) (dst := dst) (hR.hM _ _ hx) (by simp [UM, hu1, hu2, hu3, hxs])
            exact ⟨u, by simp only [execOp, hop]; exact dA h1, h2⟩
          · simp at h
        · simp at h
    · simp at h
  · split at h
    · rename_i e he
      refine ⟨e, h, fun hg w G L ρ hR => ?_⟩
      obtain ⟨v, h1, h2⟩ := TS (P := P) hR.hM he
      exact ⟨v, h1 w, h2⟩
    · exact ZX h
end
end Go.Proofs.YtbnmhjobnepajaaGreat.M


namespace Go.Proofs.YtbnmhjobnepajaaGreat.M

structure TbI (St : Type) where
  t : Nat
  fs : List Fk
  get : St → List (az fs)
  set : St → List (az fs) → St

section
variable {St : Type}
def aU : List (TbI St) → St → Tabs
  | [], _, _ => none
  | b :: r, σ, t => (match Nat.beq b.t t with
    | true => some ⟨b.fs, b.get σ⟩
    | false => aU r σ t)

def qg (TB : List (TbI St)) : Prop := ∀ b ∈ TB, ∀ σ ys, b.get (b.set σ ys) = ys ∧ ∀ b' ∈ TB, b'.t ≠ b.t → b'.get (b.set σ ys) = b'.get σ

def EE {β : Type} : List (TbI St) → St → Nat → (∀ fs : List Fk, List (az fs) → (List (az fs) → St) → Option β) → Option β
  | [], _, _, _ => none
  | b :: r, σ, t, k => (match Nat.beq b.t t with
    | true => k b.fs (b.get σ) (b.set σ)
    | false => EE r σ t k)

theorem Lu {σ σ' : St} {t : Nat} : ∀ {TB : List (TbI St)}, (∀ b ∈ TB, b.t = t → b.get σ' = b.get σ) → aU TB σ' t = aU TB σ t
  | [], _ => rfl
  | b :: r, h => by
    have ih := Lu (TB := r) (σ := σ) (σ' := σ') (t := t) (fun b' hb => h b' (List.mem_cons_of_mem _ hb))
    unfold aU
    split
    · rename_i hb
      rw [h b List.mem_cons_self (Nat.eq_of_beq_eq_true hb)]
    · exact ih

theorem MG {β : Type} {r : β} {σ : St} {t : Nat} : ∀ {TB : List (TbI St)} {k : ∀ fs : List Fk, List (az fs) → (List (az fs) → St) → Option β}, EE TB σ t k = some r →
    ∃ b ∈ TB, b.t = t ∧ k b.fs (b.get σ) (b.set σ) = some r ∧ ∀ σ', aU TB σ' t = some ⟨b.fs, b.get σ'⟩
  | [], _, h => by simp [EE] at h
  | b :: l, k, h => by
    unfold EE at h
    split at h
    · rename_i hb
      exact ⟨b, List.mem_cons_self, Nat.eq_of_beq_eq_true hb, h, fun σ' => by unfold aU; rw [hb]⟩
    · rename_i hb
      obtain ⟨b', h1, h2, h3, h4⟩ := MG h
      exact ⟨b', List.mem_cons_of_mem _ h1, h2, h3, fun σ' => by unfold aU; rw [hb]; exact h4 σ'⟩

theorem vP {β : Type} {TB : List (TbI St)} (hTB : qg TB) {r : β} {σ : St} {t : Nat} {k : ∀ fs : List Fk, List (az fs) → (List (az fs) → St) → Option β} (h : EE TB σ t k = some r) :
    ∃ fs xs put, k fs xs put = some r ∧ aU TB σ t = some ⟨fs, xs⟩ ∧ (∀ ys, aU TB (put ys) t = some ⟨fs, ys⟩) ∧ ∀ ys t', t' ≠ t → aU TB (put ys) t' = aU TB σ t' := by
  obtain ⟨b, hb, ht, hk, hf⟩ := MG h
  refine ⟨b.fs, b.get σ, b.set σ, hk, hf σ, fun ys => by rw [hf, (hTB b hb σ ys).1], fun ys t' hne => ?_⟩
  refine Lu fun b' hb' ht' => (hTB b hb σ ys).2 b' hb' ?_
  rw [ht', ht]; exact hne
end

inductive PM where
  | kv (k : Kd)
  | own (e bt : Nat) (k : Kd)
  | cap (t : Nat)
  | clo (f : Nat) (ts : List Nat)
  | bnd (f : Nat) (k : Kd)
  | sby (e : Nat)
  | box (k : Kd)
  | lmp (kk kv : Kd)

@[reducible] def NF : List Nat → Type
  | [] => Unit
  | _ :: r => Nat × NF r
@[reducible] def PM.den : PM → Type
  | .kv k => k.den
  | .own _ _ k => List k.den
  | .cap _ => Nat
  | .clo _ ts => NF ts
  | .bnd _ k => k.den
  | .sby _ => List Int
  | .box k => k.den
  | .lmp kk vv => List (kk.den × vv.den)
@[reducible] def qJ : List PM → Type
  | [] => Unit
  | p :: r => p.den × qJ r
@[reducible] def res : List PM → Type
  | [] => Unit
  | [p] => p.den
  | p :: q :: r => p.den × res (q :: r)

def aaQ : (ts : List Nat) → NF ts → List (Nat × Nat)
  | [], _ => []
  | t :: r, x => (t, x.1) :: aaQ r x.2
def Iw : (p : PM) → p.den → Option En
  | .kv k, x => some (.kv k x)
  | .own _ _ k, xs => some (.kv (.list k) xs)
  | .cap t, i => some (.fldA t i 0)
  | .clo f ts, l => some (.clo f (aaQ ts l))
  | .bnd f k, x => some (.bnd f k x)
  | _, _ => none
def Dw : (ps : List PM) → qJ ps → List (Option En)
  | [], _ => []
  | p :: r, x => Iw p x.1 :: Dw r x.2
def JF : (rs : List PM) → res rs → List (Option En)
  | [], _ => []
  | [p], x => [Iw p x]
  | p :: q :: r, x => Iw p x.1 :: JF (q :: r) x.2

inductive DT where
  | tk (s : Nat) (j : Option Nat) (e bt : Nat) (k : Kd) (xs : List k.den)
  | sby (s : Nat) (e : Nat) (xs : List Int)
  | box (s : Nat) (k : Kd) (x : k.den)
  | mp (s : Nat) (kk kv : Kd) (m : List (kk.den × kv.den))
  | hole (s t i f : Nat)

def iJ (a : Act) (s : Nat) (j : Option Nat) : Value :=
  match j with
  | none => a.tmps.getD s Go.undef
  | some j => (match a.tmps.getD s Go.undef with
    | .tuple vs => vs.toList.getD j Go.undef
    | _ => Go.undef)
def Iu : Value → Nat
  | .pointer (some ad) => ad.block
  | .map (some r) => r
  | _ => 0
def toL (a : Act) : DT → LS
  | .tk s j e bt k xs => .tk (iJ a s j) e bt k xs
  | .sby s e xs => .sby (iJ a s none) e xs
  | .box s k x => .box (Iu (iJ a s none)) k x
  | .mp s kk kv m => .mp (Iu (iJ a s none)) kk kv m
  | .hole s t i f => .hole t i f (iJ a s none)
def DT.slot : DT → Nat
  | .tk s _ _ _ _ _ => s
  | .sby s _ _ => s
  | .box s _ _ => s
  | .mp s _ _ _ => s
  | .hole s _ _ _ => s
def okT (a : Act) : DT → Prop
  | .box s _ _ => ∃ b, iJ a s none = .pointer (some ⟨b, 0, none⟩)
  | .mp s _ _ _ => ∃ b, iJ a s none = .map (some b)
  | _ => True

theorem oO {a : Act} {d s : Nat} {j : Option Nat} {v : Value} (h : s ≠ d) : iJ (a.put (some d) v) s j = iJ a s j := by
  unfold iJ
  rw [zf s h]
theorem Vl {a : Act} {d : Nat} {v : Value} {t : DT} (h : t.slot ≠ d) : toL (a.put (some d) v) t = toL a t := by
  cases t <;> simp only [DT.slot] at h <;> simp only [toL, oO h]
theorem U7 {a : Act} {d : Nat} {v : Value} {t : DT} (h : t.slot ≠ d) (ho : okT a t) : okT (a.put (some d) v) t := by
  cases t <;> simp only [DT.slot] at h <;> simp only [okT, oO h] at ho ⊢ <;> exact ho
def vH (d : Nat) : List DT → Bool
  | [] => true
  | t :: r => !(Nat.beq t.slot d) && vH d r
theorem Bi {d : Nat} : ∀ {L : List DT}, vH d L = true → ∀ t ∈ L, t.slot ≠ d
  | [], _, t, h => by simp at h
  | t :: r, h, u, hu => by
    unfold vH at h
    simp only [Bool.and_eq_true, Bool.not_eq_true'] at h
    rcases List.mem_cons.1 hu with rfl | hu
    · intro he; rw [he, Nat.beq_refl] at h; exact absurd h.1 (by simp)
    · exact Bi h.2 u hu
theorem BV {a : Act} {d : Nat} {v : Value} {L : List DT} (h : vH d L = true) : L.map (toL (a.put (some d) v)) = L.map (toL a) :=
  List.map_congr_left fun t ht => Vl (Bi h t ht)

def EnO (G : Gh) (o : Option En) (v : Value) : Prop := ∀ e, o = some e → EnR G e v
def lsP : (p : PM) → p.den → Value → List LS
  | .own e bt k, xs, v => [.tk v e bt k xs]
  | .sby e, xs, v => [.sby v e xs]
  | _, _, _ => []
def FN : (ps : List PM) → qJ ps → List Value → List LS
  | p :: r, x, v :: vs => lsP p x.1 v ++ FN r x.2 vs
  | _, _, _ => []
def BK : (rs : List PM) → res rs → List Value → List LS
  | [p], x, v :: _ => lsP p x v
  | p :: q :: r, x, v :: vs => lsP p x.1 v ++ BK (q :: r) x.2 vs
  | _, _, _ => []
def parts (n : Nat) (v : Value) (vs : List Value) : Prop :=
  match n with
  | 1 => vs = [v]
  | _ => v = .tuple vs.toArray
def isP : PM → Bool
  | .box _ => false
  | .lmp _ _ => false
  | _ => true

section
variable {St : Type}
def Ul (TB : List (TbI St)) (G : Gh) (rs : List PM) (y : res rs) (σ' : St) (Ls : List LS) : Ending → World → Prop
  | .returned v, w' => ∃ G' vs, G.le G' ∧ parts rs.length v vs ∧ cO (EnO G') (JF rs y) vs ∧ Holds w' G' (aU TB σ') (BK rs y vs ++ Ls)
  | _, _ => False

def acd (P : Program) (TB : List (TbI St)) (f : Nat) (ps rs : List PM) (fn : qJ ps → St → Option (res rs × St)) : Prop :=
  callable P f = true ∧ ∀ x σ y σ', fn x σ = some (y, σ') → ∀ (args : List Value) (w : World) (G : Gh) (Ls : List LS), cO (EnO G) (Dw ps x) args → Holds w G (aU TB σ) (FN ps x args ++ Ls) → aN Ls →
    Calls P f args.toArray w (Ul TB G rs y σ' Ls)

inductive KnF (St : Type) (ps rs : List PM) where
  | ro (f : qJ ps → St → Option (res rs))
  | rw (f : qJ ps → St → Option (res rs × St))
structure Kn (St : Type) where
  f : Nat
  ps : List PM
  rs : List PM
  fn : KnF St ps rs
def KnF.full {ps rs : List PM} : KnF St ps rs → qJ ps → St → Option (res rs × St)
  | .ro f, x, σ => (f x σ).bind fun y => some (y, σ)
  | .rw f, x, σ => f x σ
def Kn.ok (P : Program) (TB : List (TbI St)) (k : Kn St) : Prop := acd P TB k.f k.ps k.rs k.fn.full
end

section
variable {w : World} {G : Gh} {T : Tabs}
theorem PD {t : DT} {a : Act} (h : ∀ s t' i f, t ≠ .hole s t' i f) : ∀ t' i f, aK t' i f [toL a t] = none := by
  intro t' i f
  cases t <;> simp [toL, aK]
  exact absurd rfl (h _ _ _ _)
def dw (p : DT → Bool) : List DT → Option (DT × List DT)
  | [] => none
  | t :: r => (match p t with
    | true => some (t, r)
    | false => (match dw p r with
      | some (u, r') => some (u, t :: r')
      | none => none))
theorem dF {p : DT → Bool} : ∀ {L R : List DT} {t : DT}, dw p L = some (t, R) → p t = true ∧ ∃ j, L[j]? = some t ∧ R = L.eraseIdx j
  | [], _, _, h => by simp [dw] at h
  | u :: r, R, t, h => by
    unfold dw at h
    split at h
    · rename_i hp
      simp only [Option.some.injEq, Prod.mk.injEq] at h
      obtain ⟨rfl, rfl⟩ := h
      exact ⟨hp, 0, rfl, rfl⟩
    · split at h
      · rename_i u' r' h1
        simp only [Option.some.injEq, Prod.mk.injEq] at h
        obtain ⟨rfl, rfl⟩ := h
        obtain ⟨k1, j, k2, k3⟩ := dF h1
        exact ⟨k1, j + 1, by simpa using k2, by rw [k3]; rfl⟩
      · simp at h
theorem bz {p : DT → Bool} {L R : List DT} {t : DT} (h : dw p L = some (t, R)) : t ∈ L ∧ ∀ u ∈ R, u ∈ L := by
  obtain ⟨_, j, h1, h2⟩ := dF h
  exact ⟨List.mem_of_getElem? h1, fun u hu => List.mem_of_mem_eraseIdx (h2 ▸ hu)⟩
theorem DC {α β : Type} (f : α → β) : ∀ (l : List α) (j : Nat), (l.eraseIdx j).map f = (l.map f).eraseIdx j
  | [], _ => by simp
  | x :: l, 0 => rfl
  | x :: l, j + 1 => by simp [DC f l j]
theorem Holds.dw {a : Act} {p : DT → Bool} {L R : List DT} {Ls : List LS} {t : DT} (hH : Holds w G T (L.map (toL a) ++ Ls)) (h : dw p L = some (t, R)) (hn : ∀ s t' i f, t ≠ .hole s t' i f) :
    Holds w G T (toL a t :: (R.map (toL a) ++ Ls)) := by
  obtain ⟨_, j, h1, h2⟩ := dF h
  have hlt := (List.getElem?_eq_some_iff.1 h1).1
  have h3 : (L.map (toL a) ++ Ls)[j]? = some (toL a t) := by
    rw [List.getElem?_append_left (by simpa using hlt)]
    simp [h1]
  have h4 := hH.front j h3 (PD hn)
  rw [List.eraseIdx_append_of_lt_length (by simpa using hlt)] at h4
  rw [h2, DC]
  exact h4
end
end Go.Proofs.YtbnmhjobnepajaaGreat.M


namespace Go.Proofs.YtbnmhjobnepajaaGreat.M

def ug (P : Program) (o : Oper) (a : Act) (w : World) (R : Value → World → Prop) : Prop :=
  ∀ (Q : Exit → Act → World → Prop) (next : Act → World → Prop), (∀ v w', R v w' → next (a.put o.dst v) w') → o.wp P a w next Q

section
variable {P : Program} {o : Oper} {a : Act} {w w' : World} {R : Value → World → Prop} {v : Value}
theorem ug.value (h : (execOp a.eval o).run P w = .ok (.value v) w') (hR : R v w') : ug P o a w R := fun Q next hn => by
  unfold Oper.wp
  rw [h]
  exact hn _ _ hR
theorem ug.skip (h : (execOp a.eval o).run P w = .ok .skip w') (hR : R Go.undef w') : ug P o a w R := fun Q next hn => by
  unfold Oper.wp
  rw [h, Oper.upon_skip]
  exact hn _ _ hR
theorem ug.call {f : Nat} {args : Array Value} (h : (execOp a.eval o).run P w = .ok (.enter f args) w) (hC : Calls P f args w (fun e w' => ∃ v, e = .returned v ∧ R v w')) : ug P o a w R := fun Q next hn => by
  unfold Oper.wp
  rw [h, Oper.upon_enter]
  refine hC.mono fun e w' he => ?_
  obtain ⟨v, rfl, hv⟩ := he
  exact hn _ _ hv
theorem ug.mono {R' : Value → World → Prop} (h : ug P o a w R) (hr : ∀ v w', R v w' → R' v w') : ug P o a w R' := fun Q next hn => h Q next fun v w' hv => hn v w' (hr v w' hv)
end

structure Cx (St : Type) where
  P : Program
  TB : List (TbI St)
  N : Nat
  KL : List (Nat × Kd)
  ML : List (Nat × Kd × Kd)
  caps : List Nat
  fz : List Nat
  tk : List Nat
  kn : List (Kn St)

def yI : List (Nat × Kd) → Nat → Option Kd
  | [], _ => none
  | (t, k) :: r, u => (match Nat.beq t u with
    | true => some k
    | false => yI r u)

def I4 : List Operand → List Nat
  | [] => []
  | .tmp t :: r => t :: I4 r
  | _ :: r => I4 r

def Ri (L : Nat → Option En) (ctx : List (Nat × Bool)) : List Nat → Env
  | [] => []
  | s :: r => (match L s with
    | some e => (match deref ctx e with
      | some e' => (s, e') :: Ri L ctx r
      | none => Ri L ctx r)
    | none => Ri L ctx r)
def XU (ops : Array Oper) (L : Nat → Option En) (o : Oper) : Env :=
  match o.guard with
  | none => Ri L [] (I4 o.op.operands.toList)
  | some (j, want) => (match (ops[j]?).bind (·.dst) with
    | some sj => (sj, .kv .bool want) :: Ri L (chain L 6 sj want) (I4 o.op.operands.toList)
    | none => [])

theorem FZ {G : Gh} {a : Act} {L : Nat → Option En} (hL : vg G a L) {ctx : List (Nat × Bool)} (hc : ∀ s w, (s, w) ∈ ctx → a.tmps.getD s Go.undef = .bool w) :
    ∀ {l : List Nat} {s : Nat} {e : En}, lk (Ri L ctx l) s = some e → EnR G e (a.tmps.getD s Go.undef)
  | [], s, e, h => by simp [Ri, lk] at h
  | t :: r, s, e, h => by
    unfold Ri at h
    split at h
    · rename_i e0 he0
      split at h
      · rename_i e1 he1
        rw [dP] at h
        by_cases hs : t = s
        · rw [if_pos hs] at h
          simp only [Option.some.injEq] at h; subst h; subst hs
          obtain ⟨h1, h2⟩ := JB hc (hL _ _ he0) he1
          exact iw h2 h1
        · rw [if_neg hs] at h
          exact FZ hL hc h
      · exact FZ hL hc h
    · exact FZ hL hc h

theorem aad {G : Gh} {a : Act} {N : Nat} {ops : Array Oper} {L : Nat → Option En} {o : Oper} (hN : a.tmps.size = N) (hD : a.defers = []) (hL : vg G a L) (hg : Region.wanted o (yielded ops a.tmps) = true) : dD G N a (XU ops L o) := by
  refine ⟨hN, hD, ?_⟩
  intro s e h
  unfold XU at h
  unfold Region.wanted at hg
  split at h
  · exact FZ hL (by simp) h
  · rename_i j want hgo
    rw [hgo] at hg
    simp only at hg
    split at h
    · rename_i sj hj
      have hb := (iG (a := a) hj want).1 hg
      rw [dP] at h
      by_cases hs : sj = s
      · rw [if_pos hs] at h
        simp only [Option.some.injEq] at h; subst h; subst hs
        rw [hb]; exact mkB
      · rw [if_neg hs] at h
        exact FZ hL (wR hL hb) h
    · simp [lk] at h

section
variable {St β : Type}
def XN (C : Cx St) (ops : Array Oper) (i : Nat) (o : Oper) (E : Env) (g : Option Bool) (k : En → Option β) : Option β :=
  match o.op with
  | .build t _ => (match yI C.KL t with
    | some K => (match K.agg with
      | true => (match SC C.P ops E i K with
        | some (x, _) => k (.kv K x)
        | none => none)
      | false => none)
    | none => none)
  | .buildSlice t _ _ => (match C.P.underlying t with
    | some (.slice el) => (match yI C.KL el with
      | some K => (match EI C.P ops E i K with
        | some (xs, _) => k (.pl K xs)
        | none => none)
      | none => none)
    | _ => none)
  | .makeFunc _ _ _ => (match mfE ops E i with
    | some (f, l, _) => k (.clo f l)
    | none => (match abT ops E i with
      | some (f, ⟨kk, x⟩, _) => k (.bnd f kk x)
      | none => none))
  | .slice t _ none (some _) (some _) => (match C.P.underlying t with
    | some (.slice el) => (match yI C.KL el with
      | some K => (match ab4 C.P ops E i K with
        | some (xs, n, m, _) => gp g (n = (xs.length : Int) ∧ m = (xs.length : Int)) (k (.cp K xs))
        | none => none)
      | none => none)
    | _ => none)
  | .call c => (match c.callee, c.argTypes.toList with
    | .builtin .append, t :: _ => (match C.P.underlying t with
      | some (.slice el) => (match yI C.KL el, C.P.info? el with
        | some K, some inf => (match Js C.P ops E i K inf.bytes with
          | some (es, ys, _, _) => (match Qh K es with
            | some xs => gp g ((xs.length + ys.length) * inf.bytes ≤ 140737488355328) (k (.kv (.list K) (xs ++ ys)))
            | none => none)
          | none => none)
        | _, _ => none)
      | _ => none)
    | _, _ => none)
  | .binOp _ _ _ _ _ => (match abq C.P ops E i with
    | some (b, _) => k (.kv .bool b)
    | none => none)
  | _ => none

variable {C : Cx St} {ops : Array Oper} {i : Nat} {o : Oper} {E : Env} {g : Option Bool} {r : β} {k : En → Option β}
def Xf (T : Tabs) (M : List LS) (G : Gh) (e : En) (v : Value) (w' : World) : Prop := ∃ G', G.le G' ∧ EnR G' e v ∧ Holds w' G' T M

theorem aau {a : Act} {w : World} {G : Gh} {N : Nat} {P : Program} {f : Nat} {l : List (Nat × Nat)} {d : Option Nat} (ho : ops[i]? = some o) (hE : dD G N a E) (hb : mfE ops E i = some (f, l, d)) : ∃ v, (execOp a.eval o).run P w = .ok (.value v) w ∧ EnR G (.clo f l) v := by
  unfold mfE at hb
  rw [ho] at hb
  split at hb
  · rename_i o' ho'
    simp only [Option.some.injEq] at ho'; subst ho'
    split at hb
    · rename_i f' first caps hg hop
      split at hb
      · rename_i hf
        split at hb
        · rename_i l' hl
          simp only [Option.some.injEq, Prod.mk.injEq] at hb
          obtain ⟨rfl, rfl, rfl⟩ := hb
          have hf' : first = #[] := by apply Array.ext'; simpa using hf
          refine ⟨.func (.func f') #[] (caps.toList.map a.eval).toArray, ?_, _, rfl, Qj (aI hE) hl⟩
          have hc : caps.map a.eval = (caps.toList.map a.eval).toArray := by apply Array.ext'; simp
          simp [execOp, hop, hf', hc, Instr.makeFunc]
        · simp at hb
      · simp at hb
    · simp at hb
  · simp at hb

theorem YS {a : Act} {w : World} {G : Gh} {N : Nat} {P : Program} {f : Nat} {kk : Kd} {x : kk.den} {d : Option Nat} (ho : ops[i]? = some o) (hE : dD G N a E) (hb : abT ops E i = some (f, ⟨kk, x⟩, d)) : ∃ v, (execOp a.eval o).run P w = .ok (.value v) w ∧ EnR G (.bnd f kk x) v := by
  unfold abT at hb
  rw [ho] at hb
  split at hb
  · rename_i o' ho'
    simp only [Option.some.injEq] at ho'; subst ho'
    split at hb
    · rename_i f' first caps hg hop
      split at hb
      · rename_i y hf hcp
        split at hb
        · rename_i k' x' hx
          simp only [Option.some.injEq, Prod.mk.injEq, KV.mk.injEq] at hb
          obtain ⟨rfl, ⟨rfl, hxx⟩, rfl⟩ := hb
          obtain rfl := eq_of_heq hxx
          have hf' : first = #[y] := by apply Array.ext'; simpa using hf
          have hc' : caps = #[] := by apply Array.ext'; simpa using hcp
          refine ⟨.func (.func f') #[a.eval y] #[], ?_, _, rfl, dG (aI hE) (by simp) hx⟩
          simp [execOp, hop, hf', hc', Instr.makeFunc]
        · simp at hb
      · simp at hb
    · simp at hb
  · simp at hb

theorem OO (ho : ops[i]? = some o) (h : XN C ops i o E g k = some r) :
    ∃ e, k e = some r ∧ (goB g → ∀ (a : Act) (w : World) (G : Gh) (T : Tabs) (M : List LS), dD G C.N a E → Holds w G T M → ug C.P o a w (Xf T M G e)) := by
  have same : ∀ {o' : Oper}, ops[i]? = some o' → o' = o := fun h' => by rw [ho] at h'; simpa using h'.symm
  unfold XN at h
  split at h
  · split at h
    · rename_i K hK
      split at h
      · rename_i hag
        split at h
        · rename_i x d hb
          refine ⟨_, h, fun _ a w G T M hE hH => ?_⟩
          obtain ⟨o', v, h1, h2, h3, h4, h5⟩ := SE (w := w) K x hag hE hb
          obtain rfl := same h1
          exact .value h4 ⟨G, Gh.le_refl G, h5, hH⟩
        · simp at h
      · simp at h
    · simp at h
  · split at h
    · rename_i el hu
      split at h
      · rename_i K hK
        split at h
        · rename_i xs d hb
          refine ⟨_, h, fun _ a w G T M hE hH => ?_⟩
          obtain ⟨o', v, w', G', h1, h2, h3, h4, h5, h6, h7, _⟩ := Hy K xs hE hH hb
          obtain rfl := same h1
          exact .value h4 ⟨G', h5, h6, h7⟩
        · simp at h
      · simp at h
    · simp at h
  · split at h
    · rename_i f l d hb
      refine ⟨_, h, fun _ a w G T M hE hH => ?_⟩
      obtain ⟨v, h1, h2⟩ := aau (w := w) (P := C.P) ho hE hb
      exact .value h1 ⟨G, Gh.le_refl G, h2, hH⟩
    · split at h
      · rename_i f kk x d hb
        refine ⟨_, h, fun _ a w G T M hE hH => ?_⟩
        obtain ⟨v, h1, h2⟩ := YS (w := w) (P := C.P) ho hE hb
        exact .value h1 ⟨G, Gh.le_refl G, h2, hH⟩
      · simp at h
  · split at h
    · rename_i el hu
      split at h
      · rename_i K hK
        split at h
        · rename_i xs n m d hb
          obtain ⟨h1, h2⟩ := jq h
          refine ⟨_, h2, fun hg a w G T M hE hH => ?_⟩
          obtain ⟨o', v, k1, k2, k3, k4, k5⟩ := aaJ (w := w) K hE hb (h1 hg).1 (h1 hg).2
          obtain rfl := same k1
          exact .value k4 ⟨G, Gh.le_refl G, k5, hH⟩
        · simp at h
      · simp at h
    · simp at h
  · split at h
    · rename_i c t ts hcal hts
      split at h
      · rename_i el hu
        split at h
        · rename_i K inf hK hinf
          split at h
          · rename_i es ys e' d hb
            split at h
            · rename_i xs hcap
              obtain ⟨h1, h2⟩ := jq h
              refine ⟨_, h2, fun hg a w G T M hE hH => ?_⟩
              obtain ⟨o', v, w', G', k1, k2, k3, k4, k5, k6, k7⟩ := Xl hE hH hcap hb (h1 hg)
              obtain rfl := same k1
              exact .value k4 ⟨G', k5, k6, k7⟩
            · simp at h
          · simp at h
        · simp at h
      · simp at h
    · simp at h
  · split at h
    · rename_i b d hb
      refine ⟨_, h, fun _ a w G T M hE hH => ?_⟩
      obtain ⟨o', h1, h2, h3, h4⟩ := aag (w := w) hE hb
      obtain rfl := same h1
      exact .value h4 ⟨G, Gh.le_refl G, mkB, hH⟩
    · simp at h
  · simp at h
end
end Go.Proofs.YtbnmhjobnepajaaGreat.M


namespace Go.Proofs.YtbnmhjobnepajaaGreat.M

inductive FB where
  | p (k : Kd) (x : k.den)
  | nil
  | mp (s : Nat)
inductive DX where
  | rel (s off : Nat)
  | ela (s m off : Nat)
  | asl (s n : Nat)
  | bld (t : Nat) (fbs : List FB)
abbrev Xs := List (Nat × DX)
def FbR (G : Gh) (a : Act) : FB → List Value → Prop
  | .p k x, cs => Kr G k x cs
  | .nil, cs => cs = [.slice none 0 0]
  | .mp s, cs => cs = [iJ a s none]
def Jv (G : Gh) (a : Act) : List FB → List Value → Prop
  | [], cs => cs = []
  | f :: r, cs => ∃ c1 c2, cs = c1 ++ c2 ∧ FbR G a f c1 ∧ Jv G a r c2
def DXR (G : Gh) (a : Act) : DX → Value → Prop
  | .rel s off, v => ∃ b, iJ a s none = .pointer (some ⟨b, 0, none⟩) ∧ v = .pointer (some ⟨b, off, none⟩)
  | .ela s m off, v => off < m ∧ ∃ b, iJ a s none = .pointer (some ⟨b, 0, none⟩) ∧ v = .pointer (some ⟨b, off, none⟩)
  | .asl s n, v => ∃ b m, iJ a s none = .pointer (some ⟨b, 0, none⟩) ∧ v = .slice (some ⟨b, 0, none⟩) n m
  | .bld _ fbs, v => ∃ cs : Array Value, v = .agg cs ∧ Jv G a fbs cs.toList
def FB.uses (d : Nat) : FB → Bool
  | .mp s => Nat.beq s d
  | _ => false
def Xj {α : Type} (f : α → Bool) : List α → Bool
  | [] => false
  | x :: r => f x || Xj f r
def DX.uses (d : Nat) : DX → Bool
  | .rel s _ => Nat.beq s d
  | .ela s _ _ => Nat.beq s d
  | .asl s _ => Nat.beq s d
  | .bld _ fbs => Xj (FB.uses d) fbs
def QM (d : Nat) : Xs → Bool
  | [] => true
  | (s, x) :: r => !(Nat.beq s d || x.uses d) && QM d r
def lkX : Xs → Nat → Option DX
  | [], _ => none
  | (s, x) :: r, t => (match Nat.beq s t with
    | true => some x
    | false => lkX r t)
theorem FK : ∀ {X : Xs} {s : Nat} {x : DX}, lkX X s = some x → (s, x) ∈ X
  | [], _, _, h => by simp [lkX] at h
  | (t, y) :: r, s, x, h => by
    unfold lkX at h
    split at h
    · rename_i hb
      simp only [Option.some.injEq] at h
      rw [← h, Nat.eq_of_beq_eq_true hb]; exact List.mem_cons_self
    · exact List.mem_cons_of_mem _ (FK h)

theorem rG {a b : Nat} (h : Nat.beq a b = false) : a ≠ b := fun he => by rw [he, Nat.beq_refl] at h; cases h
theorem ZB {G : Gh} {a : Act} {d : Nat} {v : Value} {f : FB} {cs : List Value} (hd : f.uses d = false) (h : FbR G a f cs) : FbR G (a.put (some d) v) f cs := by
  cases f with
  | p k x => exact h
  | nil => exact h
  | mp s => simp only [FB.uses] at hd; simp only [FbR] at h ⊢; rw [oO (rG hd)]; exact h
theorem Jw {G : Gh} {a : Act} {d : Nat} {v : Value} : ∀ {fbs : List FB} {cs : List Value}, Xj (FB.uses d) fbs = false → Jv G a fbs cs → Jv G (a.put (some d) v) fbs cs
  | [], _, _, h => h
  | f :: r, cs, hd, ⟨c1, c2, h1, h2, h3⟩ => by
    unfold Xj at hd
    simp only [Bool.or_eq_false_iff] at hd
    exact ⟨c1, c2, h1, ZB hd.1 h2, Jw hd.2 h3⟩
theorem Ui {G : Gh} {a : Act} {d : Nat} {v u : Value} {x : DX} (hd : x.uses d = false) (h : DXR G a x u) : DXR G (a.put (some d) v) x u := by
  cases x with
  | rel s off => simp only [DX.uses] at hd; simp only [DXR] at h ⊢; rw [oO (rG hd)]; exact h
  | ela s m off => simp only [DX.uses] at hd; simp only [DXR] at h ⊢; rw [oO (rG hd)]; exact h
  | asl s n => simp only [DX.uses] at hd; simp only [DXR] at h ⊢; rw [oO (rG hd)]; exact h
  | bld t fbs =>
    obtain ⟨cs, h1, h2⟩ := h
    exact ⟨cs, h1, Jw hd h2⟩
theorem Xd {G G' : Gh} {a : Act} (hle : G.le G') {f : FB} {cs : List Value} (h : FbR G a f cs) : FbR G' a f cs := by
  cases f with
  | p k x => exact eP hle h
  | nil => exact h
  | mp s => exact h
theorem MH {G G' : Gh} {a : Act} (hle : G.le G') : ∀ {fbs : List FB} {cs : List Value}, Jv G a fbs cs → Jv G' a fbs cs
  | [], _, h => h
  | f :: r, cs, ⟨c1, c2, h1, h2, h3⟩ => ⟨c1, c2, h1, Xd hle h2, MH hle h3⟩
theorem PY {G G' : Gh} {a : Act} (hle : G.le G') {x : DX} {u : Value} (h : DXR G a x u) : DXR G' a x u := by
  cases x with
  | bld t fbs => obtain ⟨cs, h1, h2⟩ := h; exact ⟨cs, h1, MH hle h2⟩
  | _ => exact h
theorem GK {d : Nat} : ∀ {X : Xs}, QM d X = true → ∀ p ∈ X, p.1 ≠ d ∧ p.2.uses d = false
  | [], _, p, h => by simp at h
  | (s, x) :: r, h, p, hp => by
    unfold QM at h
    simp only [Bool.and_eq_true, Bool.not_eq_true', Bool.or_eq_false_iff] at h
    rcases List.mem_cons.1 hp with rfl | hp
    · exact ⟨rG h.1.1, h.1.2⟩
    · exact GK h.2 p hp

structure Stt {St : Type} (C : Cx St) (E : Env) (L : List DT) (X : Xs) (σ : St) (Ls : List LS) (dst : Option Nat) (a : Act) (w : World) (G : Gh) : Prop where
  hE : dD G C.N a E
  hH : Holds w G (aU C.TB σ) (L.map (toL a) ++ Ls)
  hT : ∀ t ∈ L, okT a t
  hX : ∀ p ∈ X, DXR G a p.2 (a.tmps.getD p.1 Go.undef)
  hN : aN Ls
  hd : ∀ d, dst = some d → d < C.N ∧ vH d L = true ∧ QM d X = true
def Out {St : Type} (C : Cx St) (dst : Option Nat) (a : Act) (G : Gh) (Ls : List LS) (oe : Option En) (L' : List DT) (X' : Xs) (σ' : St) (v : Value) (w' : World) : Prop :=
  ∃ G', G.le G' ∧ EnO G' oe v ∧ (∀ t ∈ L', okT (a.put dst v) t) ∧ Holds w' G' (aU C.TB σ') (L'.map (toL (a.put dst v)) ++ Ls) ∧ ∀ p ∈ X', DXR G' (a.put dst v) p.2 ((a.put dst v).tmps.getD p.1 Go.undef)

section
variable {St β : Type} {C : Cx St} {E : Env} {L R : List DT} {X : Xs} {σ σ' : St} {Ls : List LS} {dst : Option Nat} {a : Act} {w w' : World} {G G' : Gh} {oe : Option En} {v : Value} {g : Option Bool} {r : β}

theorem Stt.sz (h : Stt C E L X σ Ls dst a w G) {d : Nat} (hd : dst = some d) : d < a.tmps.size := by rw [h.hE.1]; exact (h.hd d hd).1
theorem Stt.X' (h : Stt C E L X σ Ls dst a w G) (hle : G.le G') (v : Value) : ∀ p ∈ X, DXR G' (a.put dst v) p.2 ((a.put dst v).tmps.getD p.1 Go.undef) := by
  intro p hp
  have h1 := PY hle (h.hX p hp)
  cases hd : dst with
  | none => exact h1
  | some d =>
    obtain ⟨_, _, h4⟩ := h.hd d hd
    obtain ⟨h5, h6⟩ := GK h4 p hp
    rw [zf _ h5]
    exact Ui h6 h1
theorem Stt.T' (h : Stt C E L X σ Ls dst a w G) (v : Value) (hR : ∀ t ∈ R, t ∈ L) : ∀ t ∈ R, okT (a.put dst v) t := by
  intro t ht
  have h1 := h.hT t (hR t ht)
  cases hd : dst with
  | none => exact h1
  | some d => exact U7 (Bi (h.hd d hd).2.1 t (hR t ht)) h1
theorem Stt.L' (h : Stt C E L X σ Ls dst a w G) (v : Value) (hR : ∀ t ∈ R, t ∈ L) : R.map (toL (a.put dst v)) = R.map (toL a) := by
  cases hd : dst with
  | none => rfl
  | some d => exact List.map_congr_left fun t ht => Vl (Bi (h.hd d hd).2.1 t (hR t ht))
theorem Stt.val {d : Nat} (h : Stt C E L X σ Ls (some d) a w G) (v : Value) : iJ (a.put (some d) v) d none = v := zg (h.sz rfl)
theorem Stt.keep (h : Stt C E L X σ Ls dst a w G) (hR : ∀ t ∈ R, t ∈ L) (hle : G.le G') (he : EnO G' oe v) (hH : Holds w' G' (aU C.TB σ') (R.map (toL a) ++ Ls)) : Out C dst a G Ls oe R X σ' v w' :=
  ⟨G', hle, he, h.T' v hR, by rw [h.L' v hR]; exact hH, h.X' hle v⟩
theorem Stt.new {d : Nat} {t : DT} (h : Stt C E L X σ Ls (some d) a w G) (hR : ∀ t ∈ R, t ∈ L) (hle : G.le G') (he : EnO G' oe v) (hok : okT (a.put (some d) v) t) (hH : Holds w' G' (aU C.TB σ') (toL (a.put (some d) v) t :: (R.map (toL a) ++ Ls))) :
    Out C (some d) a G Ls oe (t :: R) X σ' v w' := by
  refine ⟨G', hle, he, ?_, ?_, h.X' hle v⟩
  · intro u hu
    rcases List.mem_cons.1 hu with rfl | hu
    · exact hok
    · exact h.T' v hR u hu
  · rw [List.map_cons, h.L' v hR]; exact hH
theorem iK {G : Gh} {v : Value} : EnO G none v := fun _ h => by simp at h
theorem bW {G : Gh} {e : En} {v : Value} (h : EnR G e v) : EnO G (some e) v := fun e' h' => by simp only [Option.some.injEq] at h'; rw [← h']; exact h

def apE (P : Program) (o : Oper) (M : Operand → Option En) : Option (Operand × TypeInfo × TypeId × TypeDesc × En) :=
  match o.op with
  | .call c => (match c.callee, c.args.toList, c.argTypes.toList with
    | .builtin .append, [s, x], [t, u] => (match P.underlying t, P.underlying u, M x with
      | some (.slice e), some d, some ex => (match P.info? e with
        | some inf => some (s, inf, e, d, ex)
        | none => none)
      | _, _, _ => none)
    | _, _, _ => none)
  | _ => none
theorem Ur {P : Program} {T : Tabs} {Ms : List LS} {o : Oper} {M : Operand → Option En} (hM : ∀ x e, M x = some e → EnR G e (a.eval x)) (hH : Holds w G T Ms) {s : Operand} {inf : TypeInfo} {e' : TypeId} {dd : TypeDesc} {ex : En} (hb : apE P o M = some (s, inf, e', dd, ex))
    {K : Kd} {bt : Nat} {ys : List K.den} (hok : qj inf K bt = true) (hsrc : Rz dd K ex = some ys) :
    ∃ t u vx news, P.underlying t = some (.slice e') ∧ P.underlying u = some dd ∧ DJ dd = true ∧ P.info? e' = some inf ∧
      LK P K.w vx ys.length news w ∧ jQ (Kr G K) K.w ys news ∧ (∀ u ∈ news, u.oneCell' = true) ∧ ∀ w1 v' w', (Builtin.append_ #[t, u] o.type #[a.eval s, vx]).run P w1 = .ok v' w' → (execOp a.eval o).run P w1 = .ok (.value v') w' := by
  unfold apE at hb
  split at hb
  · rename_i c hop
    split at hb
    · rename_i s' x t u hcal hargs hts
      split at hb
      · rename_i el d' ex' hu hx2 hx
        split at hb
        · rename_i inf' hinf
          simp only [Option.some.injEq, Prod.mk.injEq] at hb
          obtain ⟨rfl, rfl, rfl, rfl, rfl⟩ := hb
          obtain ⟨hd, news, h1, h2, h3⟩ := src_ok (P := P) hH (hM _ _ hx) hsrc
          have hop' : o.op = .call { callee := .builtin .append, args := #[s', x], argTypes := #[t, u] } := by
            rw [hop]
            congr 1
            cases c with
            | mk ca ar at_ =>
              simp only at hcal hargs hts
              subst hcal
              congr 1
              · rw [← hargs]
              · rw [← hts]
          refine ⟨t, u, _, news, hu, hx2, hd, hinf, h1, h2, h3, fun w1 v' w' hr => ?_⟩
          simp only [execOp, hop', resolve, invoke, builtin, Sem.run_bind, Sem.run_pure, Result.andThen_ok, List.map_toArray, List.map_cons, List.map_nil, hr]
        · simp at hb
      · simp at hb
    · simp at hb
  · simp at hb

theorem Jt {P : Program} {T : Tabs} {Ms : List LS} {ty t u e : TypeId} {dd : TypeDesc} {inf : TypeInfo} {K : Kd} {bt : Nat} {xs ys : List K.den} {v vx : Value} {news : List Value} (hH : Holds w G T (.tk v e bt K xs :: Ms)) (hu : P.underlying t = some (.slice e)) (hx2 : P.underlying u = some dd) (hsd : DJ dd = true) (hinf : P.info? e = some inf) (hok : qj inf K bt = true)
    (h1 : LK P K.w vx ys.length news w) (h2 : jQ (Kr G K) K.w ys news) (h3 : ∀ u ∈ news, u.oneCell' = true) (hq : (xs.length + ys.length) * bt ≤ 140737488355328) :
    ∃ v' w' G', (Builtin.append_ #[t, u] ty #[v, vx]).run P w = .ok v' w' ∧ G.le G' ∧ VR G' (.list K) (xs ++ ys) v' ∧ Holds w' G' T (.tk v' e bt K (xs ++ ys) :: Ms) := by
  obtain ⟨cs, o1, o2, o3, o4⟩ := hH.loc _ List.mem_cons_self
  obtain ⟨v', w', hr, k1, k2, k3⟩ := VC (P := P) (ty := ty) hu hx2 hsd hinf hok o1 h1 h3 hq
  obtain ⟨G', hle, hvr, hH'⟩ := hH.appended (j := 0) rfl o1 o2 o4 h2 k1 trivial k2 k3
  exact ⟨v', w', G', hr, hle, hvr, hH'⟩

theorem Xm {P : Program} {T : Tabs} {Ms : List LS} {ty t u e' : TypeId} {dd : TypeDesc} {inf : TypeInfo} {xs ys : List Int} {v vx : Value} {news : List Value} (hH : Holds w G T (.sby v e' xs :: Ms)) (hu : P.underlying t = some (.slice e')) (hx2 : P.underlying u = some dd) (hsd : DJ dd = true) (hinf : P.info? e' = some inf) (hok : qj inf (.int .u8) 1 = true)
    (h1 : LK P (Kd.int .u8).w vx ys.length news w) (h2 : jQ (Kr G (.int .u8)) (Kd.int .u8).w ys news) (h3 : ∀ u ∈ news, u.oneCell' = true) (hq : (xs.length + ys.length) * 1 ≤ 140737488355328) :
    ∃ v' w' G', (Builtin.append_ #[t, u] ty #[v, vx]).run P w = .ok v' w' ∧ G.le G' ∧ Holds w' G' T (.sby v' e' (xs ++ ys) :: Ms) := by
  obtain ⟨g, cap, cur, fz, rfl, o1, o2, o3, o4, o5, o6, o7⟩ := hH.loc _ List.mem_cons_self
  unfold qj at hok
  simp only [Bool.and_eq_true] at hok
  obtain ⟨k1, k2, k3, k4, k5⟩ := hok
  have hsize : inf.size = 1 := Nat.eq_of_beq_eq_true k1
  have hby : inf.bytes = 1 := Nat.eq_of_beq_eq_true k2
  have hnl : news.length = ys.length := by have := h1.newsLen; simp only [Kd.w, Nat.mul_one] at this; exact this
  have hnn : news = ys.map (Value.int .u8) := by
    have := acJ h2
    rw [List.take_of_length_le (by omega)] at this
    exact this
  have hcl : cur.toList.length = cur.size := Array.length_toList
  by_cases hfit : xs.length + ys.length ≤ cap
  · have hr := Rl (P := P) (ty := ty) hu hx2 hsd hinf hsize (off := 0) (m := cur.toList) (u := xs.length) h1 hfit o1 (by rw [hcl]; exact o2) (by omega) h3
    rw [Nat.zero_add, Nat.mul_one] at hr
    obtain ⟨G', hle, hH'⟩ := hH.Vb (w' := w.setRow g ⟨cur.toList.take xs.length ++ news ++ cur.toList.drop (xs.length + news.length)⟩) (v' := .slice (some ⟨g, 0, none⟩) (xs.length + ys.length) cap) (zs := xs ++ ys) (j := 0) rfl rfl o7 (fun G' hG' => by
      refine ⟨g, cap, _, fz, by rw [List.length_append], setRow_heap w g cur _ e' _ o1, ?_, by rw [List.length_append]; exact hfit, o4, ?_, ?_, hG' g rfl⟩
      · rcases o2 with o2 | o2
        · exact .inl o2
        · right
          simp only [List.size_toArray, List.length_append, List.length_take, List.length_drop]
          omega
      · simp only [List.size_toArray, List.length_append, List.length_take, List.length_drop]
        omega
      · rw [List.length_append, List.map_append, o6, ← hnn, List.take_append_of_le_length (by simp; omega)]
        rw [List.take_of_length_le (by simp; omega)]) ⟨rfl, rfl, rfl⟩ (.inl ⟨rfl, by simp, fun b' hb' => setRow_other w g b' _ (fun e => hb' (by rw [e]; rfl))⟩)
    exact ⟨_, _, G', hr, hle, hH'⟩
  · cases hz : inf.zero with
    | none => rw [hz] at k5; simp at k5
    | some z =>
      rw [hz] at k5
      have hzs : z.cells.size = 1 := Nat.eq_of_beq_eq_true k5
      have hl1 : ((cur.toList.drop 0).take (xs.length * 1)).length = xs.length * 1 := by rw [List.drop_zero, List.length_take]; omega
      have hold := zO (P := P) (w := w.drew) (u := xs.length) (c := cap) (m := xs.length) (ms := cur.toList) (off := 0) o1 hl1 (Nat.le_refl _)
      rw [List.drop_zero, Nat.mul_one, o6, List.take_of_length_le (by simp)] at hold
      have hr := J6 (ty := ty) hu hx2 hsd hinf hz hsize hold h1 (by omega) (by rw [hby]; exact hq) (by omega)
      have hge := grownCap_ge w (xs.length + ys.length) cap e'
      have hmx := grownCap_le_maxLen w (xs.length + ys.length) cap e' (by simp only [maxLen]; omega)
      obtain ⟨G', hle, hH'⟩ := hH.Vb (v' := .slice (some ⟨w.heap.size, 0, none⟩) (xs.length + ys.length) (grownCap w (xs.length + ys.length) cap e')) (zs := xs ++ ys) (w' := w.drew.alloc (.cells ((xs.map (Value.int .u8) ++ news).toArray ++ Builtin.zeroCells z.cells (grownCap w (xs.length + ys.length) cap e' - (xs.length + ys.length))) e')) (j := 0) rfl rfl o7 (fun G' hG' => by
        refine ⟨w.heap.size, _, _, (0, 0), by rw [List.length_append], heap_alloc_new' w.drew _, .inl rfl, by rw [List.length_append]; exact hge, hmx, ?_, ?_, hG' _ rfl⟩
        · rw [Array.size_append, size_zeroCells, hzs]
          simp only [List.size_toArray, List.length_map, List.length_append]
          omega
        · rw [List.length_append, List.map_append, hnn]
          simp only [Array.toList_append]
          rw [List.take_append_of_le_length (by simp)]
          rw [List.take_of_length_le (by simp)]) ⟨rfl, rfl, rfl⟩ (.inr ⟨rfl, by simp, fun b' hb' => iq w.drew _ (by simpa using hb')⟩)
      exact ⟨_, _, G', hr, hle, hH'⟩
def Pj (s : Nat) : DT → Bool
  | .tk t none _ _ _ _ => Nat.beq t s
  | _ => false
def DI (s : Nat) : DT → Bool
  | .sby t _ _ => Nat.beq t s
  | _ => false
def wY (s : Nat) : DT → Bool
  | .box t _ _ => Nat.beq t s
  | _ => false
def Pg (s : Nat) : DT → Bool
  | .mp t _ _ _ => Nat.beq t s
  | _ => false
def GM (s : Nat) : DT → Bool
  | .tk t (some _) _ _ _ _ => Nat.beq t s
  | _ => false
theorem V5 {s : Nat} {t : DT} (h : GM s t = true) : ∃ j e bt k xs, t = .tk s (some j) e bt k xs := by
  unfold GM at h
  split at h
  · rw [Nat.eq_of_beq_eq_true h]; exact ⟨_, _, _, _, _, rfl⟩
  · cases h
def Ph (s j : Nat) : DT → Bool
  | .tk t (some i) _ _ _ _ => Nat.beq t s && Nat.beq i j
  | _ => false

def aa7 (C : Cx St) (ops : Array Oper) (i : Nat) (o : Oper) (E : Env) (L : List DT) (k : Option En → List DT → Option β) : Option β :=
  match o.dst, apE C.P o (gz (look E []) []) with
  | some d, some (.tmp s, inf, e, dd, ex) => (match dw (Pj s) L with
    | some (.tk _ _ e' bt K xs, R) => (match Nat.beq e' e && qj inf K bt, Rz dd K ex with
      | true, some ys => gp none ((xs.length + ys.length) * bt ≤ 140737488355328) (k (some (.kv (.list K) (xs ++ ys))) (.tk d none e bt K (xs ++ ys) :: R))
      | _, _ => none)
    | _ => (match dw (DI s) L with
      | some (.sby _ e' xs, R) => (match Nat.beq e' e && qj inf (.int .u8) 1, Rz dd (.int .u8) ex with
        | true, some ys => gp none (xs.length + ys.length ≤ 140737488355328) (k none (.sby d e (xs ++ ys) :: R))
        | _, _ => none)
      | _ => (match yI C.KL e, lk E s with
        | some K, some (.val (.slice none 0 0)) => (match qj inf K inf.bytes, Rz dd K ex with
          | true, some ys => gp none (ys.length * inf.bytes ≤ 140737488355328) (k (some (.kv (.list K) ys)) (.tk d none e inf.bytes K ys :: L))
          | _, _ => none)
        | some K, some es => (match Qh K es, Js C.P ops E i K inf.bytes with
          | some xs, some (es', ys, e', _) => (match Qh K es' with
            | some xs' => gp none ((0 < ys.length) ∧ (xs'.length + ys.length) * inf.bytes ≤ 140737488355328) (k (some (.kv (.list K) (xs' ++ ys))) (.tk d none e' inf.bytes K (xs' ++ ys) :: L))
            | none => none)
          | _, _ => none)
        | _, _ => none)))
  | some d, some (.const (.slice none 0 0), inf, e, dd, ex) => (match yI C.KL e with
    | some K => (match qj inf K inf.bytes, Rz dd K ex with
      | true, some ys => gp none (ys.length * inf.bytes ≤ 140737488355328) (k (some (.kv (.list K) ys)) (.tk d none e inf.bytes K ys :: L))
      | _, _ => none)
    | none => none)
  | _, _ => none

theorem IZ {s : Nat} {t : DT} (h : Pj s t = true) : ∃ e bt k xs, t = .tk s none e bt k xs := by
  unfold Pj at h
  split at h
  · rename_i t e bt k xs
    rw [Nat.eq_of_beq_eq_true h]; exact ⟨e, bt, k, xs, rfl⟩
  · cases h
theorem Fa {s : Nat} {t : DT} (h : DI s t = true) : ∃ e xs, t = .sby s e xs := by
  unfold DI at h
  split at h
  · rename_i t e xs
    rw [Nat.eq_of_beq_eq_true h]; exact ⟨e, xs, rfl⟩
  · cases h
theorem sN {s : Nat} {t : DT} (h : wY s t = true) : ∃ k x, t = .box s k x := by
  unfold wY at h
  split at h
  · rename_i t k x
    rw [Nat.eq_of_beq_eq_true h]; exact ⟨k, x, rfl⟩
  · cases h
theorem CE {s : Nat} {t : DT} (h : Pg s t = true) : ∃ kk kv m, t = .mp s kk kv m := by
  unfold Pg at h
  split at h
  · rename_i t kk kv m
    rw [Nat.eq_of_beq_eq_true h]; exact ⟨kk, kv, m, rfl⟩
  · cases h
theorem V7 {s j : Nat} {t : DT} (h : Ph s j t = true) : ∃ e bt k xs, t = .tk s (some j) e bt k xs := by
  unfold Ph at h
  split at h
  · rename_i t i e bt k xs
    simp only [Bool.and_eq_true] at h
    rw [Nat.eq_of_beq_eq_true h.1, Nat.eq_of_beq_eq_true h.2]; exact ⟨e, bt, k, xs, rfl⟩
  · cases h

theorem Stt.M {d : Option Nat} (h : Stt C E L X σ Ls d a w G) : ∀ x e, gz (look E []) [] x = some e → EnR G e (a.eval x) := fun x e hx => dG (aI h.hE) (by simp) hx

theorem ZQ {ops : Array Oper} {i : Nat} {o : Oper} {k : Option En → List DT → Option β} (ho : ops[i]? = some o) (h : aa7 C ops i o E L k = some r) :
    ∃ oe L', k oe L' = some r ∧ ∀ Ls a w G, Stt C E L X σ Ls o.dst a w G → ug C.P o a w (Out C o.dst a G Ls oe L' X σ) := by
  unfold aa7 at h
  split at h
  · rename_i d s inf e dd ex hdst hap
    rw [hdst]
    split at h
    · rename_i s' j' e' bt K xs R htk
      split at h
      · rename_i ys hc hsrc
        simp only [Bool.and_eq_true] at hc
        have he := Nat.eq_of_beq_eq_true hc.1
        subst he
        obtain ⟨h1, h2⟩ := jq h
        refine ⟨_, _, h2, fun Ls a w G hS => ?_⟩
        obtain ⟨e2, bt2, k2, xs2, hteq⟩ := IZ (dF htk).1
        obtain ⟨rfl, rfl⟩ : s' = s ∧ j' = none := by injection hteq with a1 a2; exact ⟨a1, a2⟩
        obtain ⟨t, u, vx, news, q1, q2, q3, q4, q5, q6, q7, q8⟩ := Ur hS.M hS.hH hap hc.2 hsrc
        have hH := hS.hH.dw htk (fun _ _ _ _ hh => by cases hh)
        obtain ⟨v', w', G', k1, k2, k3, k4⟩ := Jt (ty := o.type) hH q1 q2 q3 q4 hc.2 q5 q6 q7 (h1 (by simp [goB]))
        refine .value (q8 _ _ _ k1) (by
          exact hS.new (bz htk).2 k2 (bW k3) trivial (by simp only [toL]; rw [hS.val]; exact k4))
      · simp at h
    · split at h
      · rename_i s' e' xs R htk
        split at h
        · rename_i ys hc hsrc
          simp only [Bool.and_eq_true] at hc
          have he := Nat.eq_of_beq_eq_true hc.1
          subst he
          obtain ⟨h1, h2⟩ := jq h
          refine ⟨_, _, h2, fun Ls a w G hS => ?_⟩
          obtain ⟨e2, xs2, hteq⟩ := Fa (dF htk).1
          obtain rfl : s' = s := by injection hteq with a1
          obtain ⟨t, u, vx, news, q1, q2, q3, q4, q5, q6, q7, q8⟩ := Ur hS.M hS.hH hap hc.2 hsrc
          have hH := hS.hH.dw htk (fun _ _ _ _ hh => by cases hh)
          obtain ⟨v', w', G', k1, k2, k4⟩ := Xm (ty := o.type) hH q1 q2 q3 q4 hc.2 q5 q6 q7 (by rw [Nat.mul_one]; exact h1 (by simp [goB]))
          refine .value (q8 _ _ _ k1) (by
            exact hS.new (bz htk).2 k2 iK trivial (by simp only [toL]; rw [hS.val]; exact k4))
        · simp at h
      · split at h
        · rename_i K hK hlk
          split at h
          · rename_i ys hok hsrc
            obtain ⟨h1, h2⟩ := jq h
            refine ⟨_, _, h2, fun Ls a w G hS => ?_⟩
            obtain ⟨t, u, vx, news, q1, q2, q3, q4, q5, q6, q7, q8⟩ := Ur hS.M hS.hH hap hok hsrc
            have hv : a.eval (.tmp s) = .slice none 0 0 := hS.hE.2.2 s _ hlk
            rw [hv] at q8
            obtain ⟨v', w', G', k1, k2, k3, k4⟩ := Jt (ty := o.type) (hS.hH.Q3 e inf.bytes K) q1 q2 q3 q4 hok q5 q6 q7 (by rw [List.length_nil, Nat.zero_add]; exact h1 (by simp [goB]))
            exact .value (q8 _ _ _ k1) (by
              exact hS.new (fun _ ht => ht) k2 (bW k3) trivial (by simp only [toL]; rw [hS.val]; exact k4))
          · simp at h
        · rename_i K es _ hK hlk
          split at h
          · rename_i xs es' ys e' d' hcap hb
            split at h
            · rename_i xs' hcap'
              obtain ⟨h1, h2⟩ := jq h
              refine ⟨_, _, h2, fun Ls a w G hS => ?_⟩
              obtain ⟨hne, hq⟩ := h1 (by simp [goB])
              obtain ⟨o', v', w', G', k1, k2, k3, k4, k5, k6, k7⟩ := Xk hS.hE hS.hH hcap' hb hne hq
              obtain rfl : o' = o := by rw [ho] at k1; simpa using k1.symm
              exact .value k4 (by
                exact hS.new (fun _ ht => ht) k5 (bW k6) trivial (by simp only [toL]; rw [hS.val]; exact k7))
            · simp at h
          · simp at h
        · simp at h
  · rename_i d inf e dd ex hdst hap
    rw [hdst]
    split at h
    · rename_i K hK
      split at h
      · rename_i ys hok hsrc
        obtain ⟨h1, h2⟩ := jq h
        refine ⟨_, _, h2, fun Ls a w G hS => ?_⟩
        obtain ⟨t, u, vx, news, q1, q2, q3, q4, q5, q6, q7, q8⟩ := Ur hS.M hS.hH hap hok hsrc
        have hv : a.eval (.const (.slice none 0 0)) = .slice none 0 0 := rfl
        rw [hv] at q8
        obtain ⟨v', w', G', k1, k2, k3, k4⟩ := Jt (ty := o.type) (hS.hH.Q3 e inf.bytes K) q1 q2 q3 q4 hok q5 q6 q7 (by rw [List.length_nil, Nat.zero_add]; exact h1 (by simp [goB]))
        exact .value (q8 _ _ _ k1) (by
          exact hS.new (fun _ ht => ht) k2 (bW k3) trivial (by simp only [toL]; rw [hS.val]; exact k4))
      · simp at h
    · simp at h
  · simp at h

def abb (C : Cx St) (ops : Array Oper) (i : Nat) (o : Oper) (E : Env) (L : List DT) (k : Option En → List DT → Option β) : Option β :=
  match o.dst, o.op with
  | some d, .convert s t x => (match C.P.underlying s, C.P.underlying t with
    | some .string, some (.slice el) => (match C.P.underlying el, gz (look E []) [] x with
      | some (.int .u8), some (.kv .str y) => gp none (y.length ≤ 140737488355328) (k none (.sby d el (jS y) :: L))
      | _, _ => none)
    | some (.slice el), some .string => (match C.P.underlying el, x with
      | some (.int .u8), .tmp sl => (match dw (DI sl) L with
        | some (.sby _ _ xs, _) => k (some (.kv .str (bT xs))) L
        | _ => none)
      | _, _ => none)
    | _, _ => none)
  | some d, .move (.tmp s) => (match dw (Pj s) L with
    | some (.tk _ _ e bt K xs, R) => k (some (.kv (.list K) xs)) (.tk d none e bt K xs :: R)
    | _ => (match dw (DI s) L with
      | some (.sby _ e xs, R) => k none (.sby d e xs :: R)
      | _ => (match dw (GM s) L, lk E s with
        | some (.tk _ (some j) e bt K xs, R), some e0 => k (some e0) (.tk d (some j) e bt K xs :: R)
        | _, _ => none)))
  | some d, .assign (.tmp s) => (match dw (Pj s) L with
    | some (.tk _ _ e bt K xs, R) => k (some (.kv (.list K) xs)) (.tk d none e bt K xs :: R)
    | _ => (match dw (DI s) L with
      | some (.sby _ e xs, R) => k none (.sby d e xs :: R)
      | _ => (match dw (GM s) L, lk E s with
        | some (.tk _ (some j) e bt K xs, R), some e0 => k (some e0) (.tk d (some j) e bt K xs :: R)
        | _, _ => none)))
  | some d, .extract (.tmp s) j => (match dw (Ph s j) L, lk E s with
    | some (.tk _ _ e bt K xs, R), some (.tup l) => (match l[j]? with
      | some _ => k (some (.kv (.list K) xs)) (.tk d none e bt K xs :: R)
      | none => none)
    | _, _ => none)
  | some d, .buildSlice t n ps => (match aa6 C.P ops E i with
    | some (el, _) => (match yI C.KL el, C.P.info? el with
      | some K, some inf => k (some (.kv (.list K) [])) (.tk d none el inf.bytes K [] :: L)
      | _, _ => none)
    | none => none)
  | _, _ => none

theorem KG {P : Program} {o : Oper} {s : Nat} (h : o.op = .move (.tmp s) ∨ o.op = .assign (.tmp s)) (a : Act) (w : World) : (execOp a.eval o).run P w = .ok (.value (iJ a s none)) w := by
  rcases h with h | h <;> simp [execOp, h, Act.eval, iJ]

theorem Xz {P : Program} {T : Tabs} {Ms : List LS} {o : Oper} {s t el : TypeId} {x : Operand} {y' : List UInt8} (hop : o.op = .convert s t x) (hs : P.underlying s = some .string) (ht : P.underlying t = some (.slice el)) (hu : P.underlying el = some (.int .u8)) (hv : a.eval x = .string ⟨y'.toArray⟩) (hH : Holds w G T Ms) (hl : y'.length ≤ 140737488355328) :
    ∃ v w' G', (execOp a.eval o).run P w = .ok (.value v) w' ∧ G.le G' ∧ Holds w' G' T (.sby v el (jS y') :: Ms) := by
  have hrun := run_bytes_of_string (P := P) w s t el ⟨y'.toArray⟩ hs ht hu
  have hsz : (⟨y'.toArray⟩ : ByteArray).size = y'.length := by simp [ByteArray.size]
  rw [hsz] at hrun
  have hge := grownCap_ge w y'.length 0 el
  have hmx := grownCap_le_maxLen w y'.length 0 el (by simp only [maxLen]; omega)
  have hcur : (bytesRow ⟨y'.toArray⟩ (grownCap w y'.length 0 el)).size = grownCap w y'.length 0 el := by
    simp [bytesRow, ByteArray.size]; omega
  have hH2 := hH.drew
  let O : Obj := .cells (bytesRow ⟨y'.toArray⟩ (grownCap w y'.length 0 el)) el ((bytesRow ⟨y'.toArray⟩ (grownCap w y'.length 0 el)).size, (bytesRow ⟨y'.toArray⟩ (grownCap w y'.length 0 el)).size + 1)
  refine ⟨.slice (some ⟨w.heap.size, 0, none⟩) y'.length (grownCap w y'.length 0 el), w.drew.alloc O, _, ?_, Gh.iH hH2 .loc, hH2.yF O .loc (.sby (.slice (some ⟨w.heap.size, 0, none⟩) y'.length (grownCap w y'.length 0 el)) el (jS y')) (.inl rfl) ?_ ?_ rfl (fun _ _ _ => rfl)⟩
  · simp only [execOp, hop, hv]
    exact dA hrun
  · unfold bJ
    have e : w.drew.heap.size = w.heap.size := rfl
    rw [e, Gh.aA]; trivial
  · have hlen : (jS y').length = y'.length := by simp [jS]
    refine ⟨w.heap.size, _, _, _, by rw [hlen], heap_alloc_new' w.drew _, .inr ?_, by rw [hlen]; exact hge, hmx, hcur, ?_, Gh.aA _ _ _⟩
    · exact Nat.le_refl _
    · rw [hlen]
      simp [bytesRow, jS]

theorem ZP {P : Program} {T : Tabs} {Ms : List LS} {o : Oper} {s t el : TypeId} {y : Operand} {v : Value} {e : TypeId} {xs : List Int} (hop : o.op = .convert s t y) (hs : P.underlying s = some (.slice el)) (ht : P.underlying t = some .string) (hu : P.underlying el = some (.int .u8)) (hv0 : a.eval y = v) (hH : Holds w G T Ms) (hj : .sby v e xs ∈ Ms) :
    (execOp a.eval o).run P w = .ok (.value (.string ⟨(bT xs).toArray⟩)) w := by
  obtain ⟨g, cap, cur, fz, rfl, o1, o2, o3, o4, o5, o6, o7⟩ := hH.loc _ hj
  have hv := hv0
  simp only [execOp, hop, hv]
  refine dA ?_
  unfold convert
  rw [bM hs, bM ht]
  simp only []
  rw [bM hu]
  rw [Gs]
  have hrun := run_loadCells_list (P := P) w ⟨g, 0, none⟩ (xs.map (Value.int .u8)) (fun jj uu hq2 => by
    rw [addr_add, vS o1, Nat.zero_add, ← Array.getElem?_toList]
    rw [← o6] at hq2
    have hjl := (List.getElem?_eq_some_iff.1 hq2).1
    rw [List.length_take] at hjl
    rw [List.getElem?_take_of_lt (by omega)] at hq2
    exact hq2)
  rw [List.length_map] at hrun
  exact run_bytesToString w ⟨g, 0, none⟩ xs.length cap _ hrun

theorem aai {P : Program} {o : Oper} {s j : Nat} {l : List KV} {kv : KV} (hop : o.op = .extract (.tmp s) j) (hv : EnR G (.tup l) (a.tmps.getD s Go.undef)) (hl : l[j]? = some kv) : (execOp a.eval o).run P w = .ok (.value (iJ a s (some j))) w := by
  obtain ⟨vs, h1, h2⟩ := hv
  obtain ⟨u, h3, _⟩ := cO.get h2 hl
  have h4 : a.eval (.tmp s) = .tuple vs := h1
  have h5 : iJ a s (some j) = u := by
    unfold iJ
    simp only
    rw [h1]
    simp only
    rw [List.getD_eq_getElem?_getD, h3]; rfl
  have h6 : vs[j]? = some u := by rw [← Array.getElem?_toList]; exact h3
  rw [h5]
  simp [execOp, hop, h4, Instr.extract, h6]

theorem ZZ {ops : Array Oper} {i : Nat} {o : Oper} {k : Option En → List DT → Option β} (ho : ops[i]? = some o) (h : abb C ops i o E L k = some r) :
    ∃ oe L', k oe L' = some r ∧ ∀ Ls a w G, Stt C E L X σ Ls o.dst a w G → ug C.P o a w (Out C o.dst a G Ls oe L' X σ) := by
  have mv : ∀ {d s : Nat}, o.dst = some d → (o.op = .move (.tmp s) ∨ o.op = .assign (.tmp s)) → (match dw (Pj s) L with
    | some (.tk _ _ e bt K xs, R) => k (some (.kv (.list K) xs)) (.tk d none e bt K xs :: R)
    | _ => (match dw (DI s) L with
      | some (.sby _ e xs, R) => k none (.sby d e xs :: R)
      | _ => (match dw (GM s) L, lk E s with
        | some (.tk _ (some j) e bt K xs, R), some e0 => k (some e0) (.tk d (some j) e bt K xs :: R)
        | _, _ => none))) = some r → ∃ oe L', k oe L' = some r ∧ ∀ Ls a w G, Stt C E L X σ Ls o.dst a w G → ug C.P o a w (Out C o.dst a G Ls oe L' X σ) := by
    intro d s hdst hop h
    rw [hdst]
    split at h
    · rename_i s' j' e bt K xs R htk
      refine ⟨_, _, h, fun Ls a w G hS => .value (KG hop a w) ?_⟩
      obtain ⟨e2, bt2, k2, xs2, hteq⟩ := IZ (dF htk).1
      obtain ⟨rfl, rfl⟩ : s' = s ∧ j' = none := by injection hteq with a1 a2; exact ⟨a1, a2⟩
      have hH := hS.hH.dw htk (fun _ _ _ _ hh => by cases hh)
      have hl := hH.loc _ List.mem_cons_self
      exact hS.new (bz htk).2 (Gh.le_refl G) (bW (gZ hl)) trivial (by simp only [toL]; rw [hS.val]; exact hH)
    · split at h
      · rename_i s' e xs R htk
        refine ⟨_, _, h, fun Ls a w G hS => .value (KG hop a w) ?_⟩
        obtain ⟨e2, xs2, hteq⟩ := Fa (dF htk).1
        obtain rfl : s' = s := by injection hteq with a1
        have hH := hS.hH.dw htk (fun _ _ _ _ hh => by cases hh)
        exact hS.new (bz htk).2 (Gh.le_refl G) iK trivial (by simp only [toL]; rw [hS.val]; exact hH)
      · split at h
        · rename_i s' j e bt K xs R e0 htk hlk
          refine ⟨_, _, h, fun Ls a w G hS => .value (KG hop a w) ?_⟩
          obtain ⟨j2, e2, bt2, k2, xs2, hteq⟩ := V5 (dF htk).1
          obtain rfl : s' = s := by injection hteq with a1
          have hH := hS.hH.dw htk (fun _ _ _ _ hh => by cases hh)
          have hv : iJ (a.put (some d) (iJ a s' none)) d (some j) = iJ a s' (some j) := by
            have := hS.val (iJ a s' none)
            unfold iJ at this ⊢
            simp only at this ⊢
            rw [this]
          exact hS.new (bz htk).2 (Gh.le_refl G) (bW (hS.hE.2.2 _ _ hlk)) trivial (by simp only [toL]; rw [hv]; exact hH)
        · simp at h
  unfold abb at h
  split at h
  · rename_i d s t x hdst hop
    split at h
    · rename_i el hs ht
      split at h
      · rename_i y hu hx
        obtain ⟨h1, h2⟩ := jq h
        rw [hdst]
        refine ⟨_, _, h2, fun Ls a w G hS => ?_⟩
        obtain ⟨v, w', G', k1, k2, k3⟩ := Xz (a := a) hop hs ht hu (unS (hS.M _ _ hx)) hS.hH (h1 (by simp [goB]))
        exact .value k1 (by exact hS.new (fun _ ht => ht) k2 iK trivial (by simp only [toL]; rw [hS.val]; exact k3))
      · simp at h
    · rename_i el hs ht
      split at h
      · rename_i sl hu
        split at h
        · rename_i s' e' xs R htk
          rw [hdst]
          refine ⟨_, _, h, fun Ls a w G hS => ?_⟩
          obtain ⟨e2, xs2, hteq⟩ := Fa (dF htk).1
          obtain rfl : s' = sl := by injection hteq with a1
          have hm : LS.sby (iJ a s' none) e' xs ∈ L.map (toL a) ++ Ls := List.mem_append_left _ (List.mem_map.2 ⟨_, (bz htk).1, rfl⟩)
          exact .value (ZP (v := iJ a s' none) hop hs ht hu rfl hS.hH hm) (by exact hS.keep (fun _ ht => ht) (Gh.le_refl G) (bW mkS) hS.hH)
        · simp at h
      · simp at h
    · simp at h
  · rename_i d s hdst hop
    exact mv hdst (.inl hop) h
  · rename_i d s hdst hop
    exact mv hdst (.inr hop) h
  · rename_i d s j hdst hop
    split at h
    · rename_i s' j' e bt K xs R l htk hlk
      split at h
      · rename_i kv hkv
        rw [hdst]
        refine ⟨_, _, h, fun Ls a w G hS => .value (aai hop (hS.hE.2.2 _ _ hlk) hkv) ?_⟩
        obtain ⟨e2, bt2, k2, xs2, hteq⟩ := V7 (dF htk).1
        obtain ⟨rfl, rfl⟩ : s' = s ∧ j' = some j := by injection hteq with a1 a2; exact ⟨a1, a2⟩
        have hH := hS.hH.dw htk (fun _ _ _ _ hh => by cases hh)
        have hl := hH.loc _ List.mem_cons_self
        exact hS.new (bz htk).2 (Gh.le_refl G) (bW (gZ hl)) trivial (by simp only [toL]; rw [hS.val]; exact hH)
      · simp at h
    · simp at h
  · rename_i d t n ps hdst hop
    split at h
    · rename_i el d' hb
      split at h
      · rename_i K inf hK hinf
        rw [hdst]
        refine ⟨_, _, h, fun Ls a w G hS => ?_⟩
        obtain ⟨o', v', w', G', k1, k2, k3, k4, k5, k6, k7⟩ := SG inf.bytes K hS.hE hS.hH hb
        obtain rfl : o' = o := by rw [ho] at k1; simpa using k1.symm
        exact .value k4 (by exact hS.new (fun _ ht => ht) k5 (bW k6) trivial (by simp only [toL]; rw [hS.val]; exact k7))
      · simp at h
    · simp at h
  · simp at h
end
end Go.Proofs.YtbnmhjobnepajaaGreat.M


namespace Go.Proofs.YtbnmhjobnepajaaGreat.M

def aaV (M : Operand → Option En) (L : List DT) : Option Fk → Operand → Option FB
  | some (.p k), x => (match M x with
    | some e => (match yl k e with
      | some y => some (.p k y)
      | none => none)
    | none => none)
  | some (.own _ _ _), x => (match M x with
    | some (.val (.slice none 0 0)) => some .nil
    | _ => none)
  | some (.omap _ _), .tmp s => (match dw (Pg s) L with
    | some _ => some (.mp s)
    | none => none)
  | _, _ => none
def KT (fs : List Fk) (M : Operand → Option En) (L : List DT) : List (Nat × Operand) → Option (List (Nat × FB))
  | [] => some []
  | (j, x) :: r => (match aaV M L fs[j]? x, KT fs M L r with
    | some b, some l => some ((j, b) :: l)
    | _, _ => none)
def FB.w : FB → Nat
  | .p k _ => k.w
  | _ => 1
def RY : Fk → List Value → Option FB
  | .p k, cs => (match lG k cs with
    | some [] => some (.p k (fB k))
    | _ => none)
  | .own _ _ _, [.slice none 0 0] => some .nil
  | _, _ => none
def Gq (P : Program) (fields : Array Field) (zc : List Value) : List Fk → Nat → Nat → List (Nat × FB) → Option (List FB)
  | [], _, off, parts => (match parts with
    | [] => if off = zc.length then some [] else none
    | _ => none)
  | fk :: r, f, off, parts => (match fields[f]? with
    | some fd => if fd.offset = off ∧ fA P fd.type = some fk.w then
        (match parts with
        | (j, b) :: ps => (match Nat.beq j f && Nat.beq b.w fk.w with
          | true => (match Gq P fields zc r (f + 1) (off + fk.w) ps with
            | some l => some (b :: l)
            | none => none)
          | false => (match RY fk ((zc.drop off).take fk.w), Gq P fields zc r (f + 1) (off + fk.w) parts with
            | some b, some l => some (b :: l)
            | _, _ => none))
        | [] => (match RY fk ((zc.drop off).take fk.w), Gq P fields zc r (f + 1) (off + fk.w) [] with
          | some b, some l => some (b :: l)
          | _, _ => none)) else none
    | none => none)

theorem ZA {G : Gh} {a : Act} {b : FB} {cs : List Value} (h : FbR G a b cs) : cs.length = b.w := by
  cases b with
  | p k x => exact iM h
  | nil => rw [show cs = _ from h]; rfl
  | mp s => rw [show cs = _ from h]; rfl
theorem Zz {G : Gh} {a : Act} {fk : Fk} {cs : List Value} {b : FB} (h : RY fk cs = some b) : FbR G a b cs ∧ cs.length = fk.w := by
  unfold RY at h
  split at h
  · rename_i k cs
    split at h
    · rename_i hz
      simp only [Option.some.injEq] at h; subst h
      obtain ⟨c1, h1, h2⟩ := um (G := G) hz
      simp only [List.append_nil] at h1; subst h1
      exact ⟨h2, iM h2⟩
    · simp at h
  · simp only [Option.some.injEq] at h; subst h
    exact ⟨rfl, rfl⟩
  · simp at h

theorem AP {P : Program} {fields : Array Field} {zc : List Value} : ∀ {fs : List Fk} {f off : Nat} {parts : List (Nat × FB)} {l : List FB}, Gq P fields zc fs f off parts = some l → off ≤ zc.length
  | [], f, off, parts, l, h => by
    unfold Gq at h
    split at h
    · split at h
      · rename_i he; omega
      · simp at h
    · simp at h
  | fk :: r, f, off, parts, l, h => by
    unfold Gq at h
    split at h
    · split at h
      · split at h
        · split at h
          · split at h
            · rename_i h1; have := AP h1; omega
            · simp at h
          · split at h
            · rename_i h1; have := AP h1; omega
            · simp at h
        · split at h
          · rename_i h1; have := AP h1; omega
          · simp at h
      · simp at h
    · simp at h

theorem IQ {P : Program} {G : Gh} {a : Act} {fields : Array Field} {zc : List Value} {pl : Nat → Option (Nat × Nat)} (hpl : ∀ (f : Nat) (fd : Field) (sz : Nat), fields[f]? = some fd → fA P fd.type = some sz → pl f = some (fd.offset, sz)) :
    ∀ {fs : List Fk} {l : List FB} {f off : Nat} {parts : List (Nat × FB)} {vs : List (Nat × Value)} {cells : Array Value},
      Gq P fields zc fs f off parts = some l → cO (fun (p : Nat × FB) (q : Nat × Value) => q.1 = p.1 ∧ FbR G a p.2 q.2.cells.toList) parts vs →
      cells.toList.length = zc.length → cells.toList.drop off = zc.drop off →
      ∃ new, Instr.fill pl cells vs = some (cells.toList.take off ++ new).toArray ∧ Jv G a l new ∧ off + new.length = zc.length
  | [], l, f, off, parts, vs, cells, h, hv, h1, h2 => by
    unfold Gq at h
    split at h
    · split at h
      · rename_i he
        simp only [Option.some.injEq] at h; subst h
        cases vs with
        | nil =>
          refine ⟨[], ?_, rfl, by simpa using he⟩
          simp only [Instr.fill, List.append_nil]
          congr 1
          apply Array.ext'
          simp only
          rw [List.take_of_length_le (by omega)]
        | cons => exact hv.elim
      · simp at h
    · simp at h
  | fk :: r, l, f, off, parts, vs, cells, h, hv, h1, h2 => by
    have hoffz := AP h
    unfold Gq at h
    split at h
    · rename_i fd hfd
      split at h
      · rename_i hc
        obtain ⟨hoff, hsz⟩ := hc
        have hp := hpl f fd _ hfd hsz
        rw [hoff] at hp
        have zero : ∀ {b : FB} {l2 : List FB}, RY fk ((zc.drop off).take fk.w) = some b → Gq P fields zc r (f + 1) (off + fk.w) parts = some l2 →
            ∃ new, Instr.fill pl cells vs = some (cells.toList.take off ++ new).toArray ∧ Jv G a (b :: l2) new ∧ off + new.length = zc.length := by
          intro b l2 hz hl2
          obtain ⟨k1, k2⟩ := Zz (G := G) (a := a) hz
          obtain ⟨new, hn1, hn2, hn3⟩ := IQ hpl hl2 hv h1 (by rw [← List.drop_drop, h2, List.drop_drop])
          refine ⟨(zc.drop off).take fk.w ++ new, ?_, ⟨_, new, rfl, k1, hn2⟩, by rw [List.length_append, k2]; omega⟩
          rw [hn1]
          congr 2
          rw [← List.append_assoc]
          congr 1
          rw [← h2, List.take_add]
        split at h
        · rename_i j b ps
          split at h
          · rename_i hj
            simp only [Bool.and_eq_true] at hj
            have hj' := Nat.eq_of_beq_eq_true hj.1
            have hbw := Nat.eq_of_beq_eq_true hj.2
            subst hj'
            split at h
            · rename_i l2 hl2
              simp only [Option.some.injEq] at h; subst h
              cases vs with
              | nil => exact hv.elim
              | cons q vs =>
                obtain ⟨⟨hq1, hq2⟩, hvs⟩ := hv
                obtain ⟨j', v⟩ := q
                simp only at hq1; subst hq1
                have hla := ZA hq2
                rw [hbw] at hla
                have hsv : v.cells.size = fk.w := by simpa using hla
                have hlen := AP hl2
                have hcs : cells.size = zc.length := by simpa using h1
                rw [GG hp hsv (by omega)]
                obtain ⟨new, hn1, hn2, hn3⟩ := IQ (cells := (splice cells.toList v.cells.toList off).toArray) hpl hl2 hvs (by simp only; rw [Es (by rw [hla]; omega)]; exact h1) (by
                  simp only [splice]
                  rw [List.append_assoc, List.drop_append, List.length_take, h1, Nat.min_eq_left (by omega)]
                  rw [List.drop_of_length_le (by rw [List.length_take]; omega), List.nil_append]
                  rw [show off + fk.w - off = fk.w by omega, List.drop_append, List.drop_of_length_le (by rw [hla]; omega), List.nil_append, hla, Nat.sub_self, List.drop_zero]
                  rw [← List.drop_drop, h2, List.drop_drop])
                have hla' : v.cells.toList.length = fk.w := hla
                refine ⟨v.cells.toList ++ new, ?_, ⟨_, new, rfl, hq2, hn2⟩, by rw [List.length_append, hla']; omega⟩
                rw [hn1]
                congr 2
                simp only [splice]
                rw [← List.append_assoc]
                congr 1
                rw [List.take_append_of_le_length (by rw [List.length_append, List.length_take, hla']; omega)]
                rw [List.take_of_length_le (by rw [List.length_append, List.length_take, hla']; omega)]
            · simp at h
          · split at h
            · rename_i b2 l2 hz hl2
              simp only [Option.some.injEq] at h; subst h
              exact zero hz hl2
            · simp at h
        · split at h
          · rename_i b2 l2 hz hl2
            simp only [Option.some.injEq] at h; subst h
            exact zero hz hl2
          · simp at h
      · simp at h
    · simp at h

def jI : (fs : List Fk) → Nat → List FB → List DT → Option (az fs × List DT × Option (Nat × Nat))
  | [], _, [], L => some ((), L, none)
  | .p k :: r, f, .p k' y :: bs, L => if h : k' = k then (match jI r (f + 1) bs L with
      | some (x, L', m) => some ((h ▸ y, x), L', m)
      | none => none) else none
  | .own _ _ _ :: r, f, .nil :: bs, L => (match jI r (f + 1) bs L with
      | some (x, L', m) => some (([], x), L', m)
      | none => none)
  | .omap kk kv :: r, f, .mp s :: bs, L => (match dw (Pg s) L with
      | some (.mp _ kk' kv' m, R) => if h : kk' = kk ∧ kv' = kv then (match jI r (f + 1) bs R with
          | some (x, L', none) => some ((h.1 ▸ h.2 ▸ m, x), L', some (s, f))
          | _ => none) else none
      | _ => none)
  | _, _, _, _ => none

def aY : List DT → Bool
  | [] => true
  | .hole _ _ _ _ :: _ => false
  | _ :: r => aY r
theorem dQ {a : Act} {Ls : List LS} (hN : aN Ls) : ∀ {L : List DT}, aY L = true → aN (L.map (toL a) ++ Ls)
  | [], _ => hN
  | t :: r, h => by
    have : aY r = true ∧ ∀ s t' i f, t ≠ .hole s t' i f := by
      cases t <;> simp [aY] at h <;> exact ⟨h, by simp⟩
    rw [List.map_cons, List.cons_append]
    exact aN.cons (PD this.2) (dQ hN this.1)
theorem yc : ∀ {L R : List DT}, aY L = true → (∀ t ∈ R, t ∈ L) → aY R = true
  | L, [], _, _ => rfl
  | L, t :: R, h, hs => by
    have ih := yc (R := R) h fun u hu => hs u (List.mem_cons_of_mem _ hu)
    have ht := hs t List.mem_cons_self
    have : ∀ {M : List DT}, aY M = true → t ∈ M → ∀ s t' i f, t ≠ .hole s t' i f := by
      intro M
      induction M with
      | nil => intro _ hm; simp at hm
      | cons u M ih =>
        intro hM hm
        cases u <;> simp [aY] at hM <;> rcases List.mem_cons.1 hm with rfl | hm
        all_goals first | exact ih hM hm | (intro s t' i f hh; cases hh)
    have := this h ht
    cases t <;> simp [aY, ih]
    exact absurd rfl (this _ _ _ _)

section
variable {St : Type} {w : World} {G : Gh} {a : Act} {T T' : Tabs}

theorem y9 {G2 : Gh} {w2 : World} {M : List LS} {t i : Nat} (hle : G.le G2) (hh : ∀ f, aK t i f M = none) : ∀ {fs : List Fk} {f : Nat} {bs : List FB} {L L' : List DT} {x : az fs} {cs : List Value},
    jI fs f bs L = some (x, L', none) → Jv G a bs cs → L' = L ∧ pR w2 G2 M t i f fs x cs
  | [], f, [], L, L', x, cs, h, hb => by
    simp only [jI, Option.some.injEq, Prod.mk.injEq, and_true] at h
    exact ⟨h.2.symm, hb⟩
  | .p k :: r, f, .p k' y :: bs, L, L', x, cs, h, hb => by
    simp only [jI] at h
    split at h
    · rename_i hk
      subst hk
      split at h
      · rename_i x' L2 m h1
        simp only [Option.some.injEq, Prod.mk.injEq] at h
        obtain ⟨rfl, rfl, rfl⟩ := h
        obtain ⟨c1, c2, rfl, h2, h3⟩ := hb
        obtain ⟨k1, k2⟩ := y9 (w2 := w2) hle hh h1 h3
        exact ⟨k1, c1, c2, rfl, eP hle h2, k2⟩
      · simp at h
    · simp at h
  | .own e bt k :: r, f, .nil :: bs, L, L', x, cs, h, hb => by
    simp only [jI] at h
    split at h
    · rename_i x' L2 m h1
      simp only [Option.some.injEq, Prod.mk.injEq] at h
      obtain ⟨rfl, rfl, rfl⟩ := h
      obtain ⟨c1, c2, rfl, h2, h3⟩ := hb
      obtain ⟨k1, k2⟩ := y9 (w2 := w2) hle hh h1 h3
      refine ⟨k1, c1, c2, rfl, ?_, k2⟩
      show FkR w2 G2 (aK t i f M) t i f (.own e bt k) [] c1
      rw [hh f]
      exact ⟨_, h2, KQ _ _ _ _ _ _⟩
    · simp at h
  | .omap kk kv :: r, f, .mp s :: bs, L, L', x, cs, h, hb => by
    simp only [jI] at h
    split at h
    · split at h
      · split at h <;> simp at h
      · simp at h
    · simp at h
  | [], _, _ :: _, _, _, _, _, h, _ => by simp [jI] at h
  | .p _ :: _, _, [], _, _, _, _, h, _ => by simp [jI] at h
  | .p _ :: _, _, .nil :: _, _, _, _, _, h, _ => by simp [jI] at h
  | .p _ :: _, _, .mp _ :: _, _, _, _, _, h, _ => by simp [jI] at h
  | .own _ _ _ :: _, _, [], _, _, _, _, h, _ => by simp [jI] at h
  | .own _ _ _ :: _, _, .p _ _ :: _, _, _, _, _, h, _ => by simp [jI] at h
  | .own _ _ _ :: _, _, .mp _ :: _, _, _, _, _, h, _ => by simp [jI] at h
  | .omap _ _ :: _, _, [], _, _, _, _, h, _ => by simp [jI] at h
  | .omap _ _ :: _, _, .p _ _ :: _, _, _, _, _, h, _ => by simp [jI] at h
  | .omap _ _ :: _, _, .nil :: _, _, _, _, _, h, _ => by simp [jI] at h

theorem PG : ∀ {fs : List Fk} {f : Nat} {bs : List FB} {L L' : List DT} {x : az fs}, jI fs f bs L = some (x, L', none) → L' = L
  | [], f, [], L, L', x, h => by
    simp only [jI, Option.some.injEq, Prod.mk.injEq, and_true] at h
    exact h.2.symm
  | .p k :: r, f, .p k' y :: bs, L, L', x, h => by
    simp only [jI] at h
    split at h
    · rename_i hk
      subst hk
      split at h
      · rename_i x' L2 m h1
        simp only [Option.some.injEq, Prod.mk.injEq] at h
        obtain ⟨rfl, rfl, rfl⟩ := h
        exact PG h1
      · simp at h
    · simp at h
  | .own e bt k :: r, f, .nil :: bs, L, L', x, h => by
    simp only [jI] at h
    split at h
    · rename_i x' L2 m h1
      simp only [Option.some.injEq, Prod.mk.injEq] at h
      obtain ⟨rfl, rfl, rfl⟩ := h
      exact PG h1
    · simp at h
  | .omap kk kv :: r, f, .mp s :: bs, L, L', x, h => by
    simp only [jI] at h
    split at h
    · split at h
      · split at h <;> simp at h
      · simp at h
    · simp at h
  | [], _, _ :: _, _, _, _, h => by simp [jI] at h
  | .p _ :: _, _, [], _, _, _, h => by simp [jI] at h
  | .p _ :: _, _, .nil :: _, _, _, _, h => by simp [jI] at h
  | .p _ :: _, _, .mp _ :: _, _, _, _, h => by simp [jI] at h
  | .own _ _ _ :: _, _, [], _, _, _, h => by simp [jI] at h
  | .own _ _ _ :: _, _, .p _ _ :: _, _, _, _, h => by simp [jI] at h
  | .own _ _ _ :: _, _, .mp _ :: _, _, _, _, h => by simp [jI] at h
  | .omap _ _ :: _, _, [], _, _, _, h => by simp [jI] at h
  | .omap _ _ :: _, _, .p _ _ :: _, _, _, _, h => by simp [jI] at h
  | .omap _ _ :: _, _, .nil :: _, _, _, _, h => by simp [jI] at h

theorem G5 {t i : Nat} {s g : Nat} : ∀ {fs : List Fk} {f : Nat} {bs : List FB} {L L' : List DT} {x : az fs},
    jI fs f bs L = some (x, L', some (s, g)) → ∃ kk kv m, dw (Pg s) L = some (.mp s kk kv m, L') ∧
      ∀ {G2 : Gh} {w2 : World} {M : List LS} {cs : List Value}, G.le G2 → (∀ f, aK t i f M = none) → (∃ r, iJ a s none = .map (some r) ∧ G2.role r = .fld t i g ∧ ∃ es cl, w2.heap[r]? = some (.map es cl) ∧ yz G2 kk kv m es.toList cl) → Jv G a bs cs → pR w2 G2 M t i f fs x cs
  | [], f, [], L, L', x, h => by simp [jI] at h
  | .p k :: r, f, .p k' y :: bs, L, L', x, h => by
    simp only [jI] at h
    split at h
    · rename_i hk
      subst hk
      split at h
      · rename_i x' L2 m h1
        simp only [Option.some.injEq, Prod.mk.injEq] at h
        obtain ⟨rfl, rfl, rfl⟩ := h
        obtain ⟨kk, kv, m, k1, k2⟩ := G5 h1
        refine ⟨kk, kv, m, k1, fun hle hh hm hb => ?_⟩
        obtain ⟨c1, c2, rfl, h2, h3⟩ := hb
        exact ⟨c1, c2, rfl, eP hle h2, k2 hle hh hm h3⟩
      · simp at h
    · simp at h
  | .own e bt k :: r, f, .nil :: bs, L, L', x, h => by
    simp only [jI] at h
    split at h
    · rename_i x' L2 m h1
      simp only [Option.some.injEq, Prod.mk.injEq] at h
      obtain ⟨rfl, rfl, rfl⟩ := h
      obtain ⟨kk, kv, m, k1, k2⟩ := G5 h1
      refine ⟨kk, kv, m, k1, fun {G2 w2 M cs} hle hh hm hb => ?_⟩
      obtain ⟨c1, c2, rfl, h2, h3⟩ := hb
      refine ⟨c1, c2, rfl, ?_, k2 hle hh hm h3⟩
      show FkR w2 G2 (aK t i f M) t i f (.own e bt k) [] c1
      rw [hh f]
      exact ⟨_, h2, KQ _ _ _ _ _ _⟩
    · simp at h
  | .omap kk kv :: r, f, .mp s' :: bs, L, L', x, h => by
    simp only [jI] at h
    split at h
    · rename_i s2 kk' kv' m R htk
      split at h
      · rename_i hk
        obtain ⟨rfl, rfl⟩ := hk
        split at h
        · rename_i x' L2 h1
          simp only [Option.some.injEq, Prod.mk.injEq] at h
          obtain ⟨rfl, rfl, rfl, rfl⟩ := h
          obtain ⟨_, _, _, hteq⟩ := CE (dF htk).1
          obtain rfl : s2 = s' := by injection hteq
          have hL : L2 = R := PG h1
          subst hL
          refine ⟨_, _, m, htk, fun {G2 w2 M cs} hle hh hm hb => ?_⟩
          obtain ⟨c1, c2, rfl, h2, h3⟩ := hb
          obtain ⟨rr, h4, h5, es, cl, h6, h7⟩ := hm
          refine ⟨c1, c2, rfl, ⟨rr, es, cl, ?_, h5, h6, h7⟩, (y9 (w2 := w2) hle hh h1 h3).2⟩
          rw [show c1 = _ from h2, h4]
        · simp at h
      · simp at h
    · simp at h
  | [], _, _ :: _, _, _, _, h => by simp [jI] at h
  | .p _ :: _, _, [], _, _, _, h => by simp [jI] at h
  | .p _ :: _, _, .nil :: _, _, _, _, h => by simp [jI] at h
  | .p _ :: _, _, .mp _ :: _, _, _, _, h => by simp [jI] at h
  | .own _ _ _ :: _, _, [], _, _, _, h => by simp [jI] at h
  | .own _ _ _ :: _, _, .p _ _ :: _, _, _, _, h => by simp [jI] at h
  | .own _ _ _ :: _, _, .mp _ :: _, _, _, _, h => by simp [jI] at h
  | .omap _ _ :: _, _, [], _, _, _, h => by simp [jI] at h
  | .omap _ _ :: _, _, .p _ _ :: _, _, _, _, h => by simp [jI] at h
  | .omap _ _ :: _, _, .nil :: _, _, _, _, h => by simp [jI] at h
end
end Go.Proofs.YtbnmhjobnepajaaGreat.M


namespace Go.Proofs.YtbnmhjobnepajaaGreat.M

section
variable {St β : Type}
def RN : List (TbI St) → Nat → Option (List Fk)
  | [], _ => none
  | b :: r, t => (match Nat.beq b.t t with
    | true => some b.fs
    | false => RN r t)
def fF : List Nat → Nat → Bool
  | [], _ => false
  | s :: r, t => (match Nat.beq s t with
    | true => true
    | false => fF r t)
def ZN : Nat := 100000
def Vt (P : Program) (e : TypeId) (fs : List Fk) : Option (az fs) :=
  match fs with
  | [.own _ _ _] => (match zeroOf P e with
    | some (.slice none 0 0) => some ([], ())
    | _ => none)
  | fs => (match P.underlying e, zeroOf P e with
    | some (.struct fields), some (.agg zc) => (match Gq P fields zc.toList fs 0 0 [] with
      | some bs => (match jI fs 0 bs [] with
        | some (x, [], none) => some x
        | _ => none)
      | none => none)
    | _, _ => none)
def Uh (P : Program) (e : TypeId) (fs : List Fk) : Option (az fs) :=
  match fs with
  | [.p K] => (match zeroOf P e with
    | some z => (match isZero K z with
      | true => some (fB K, ())
      | false => none)
    | none => none)
  | fs => Vt P e fs
def Ap : (fs : List Fk) → (K : Kd) → K.den → Option (az fs)
  | [], .unit, _ => some ()
  | .p k :: r, .pair k' K, y => if h : k' = k then (match Ap r K y.2 with
    | some x => some (h ▸ y.1, x)
    | none => none) else none
  | _, _, _ => none
def aaX (fs : List Fk) (e : En) : Option (az fs) :=
  match fs with
  | [.p K] => (match yl K e with
    | some y => some (y, ())
    | none => none)
  | _ => none

def aba (C : Cx St) (o : Oper) (E : Env) (L : List DT) (X : Xs) (σ : St) (k : Option En → List DT → Xs → Option St → Option β) : Option β :=
  match o.dst, o.op with
  | some d, .build t ps => (match RN C.TB t with
    | some fs => (match C.P.underlying t, zeroOf C.P t, KT fs (gz (look E []) []) L ps.toList with
      | some (.struct fields), some (.agg zc), some l => (match zN C.P fields.toList, Gq C.P fields zc.toList fs 0 0 l with
        | some _, some bs => (match Xj (FB.uses d) bs with
          | false => k none L ((d, .bld t bs) :: X) none
          | true => none)
        | _, _ => none)
      | _, _, _ => none)
    | none => none)
  | some d, .alloc e => (match fF C.caps d with
    | true => EE C.TB σ (ZN + e) fun fs xs put => (match Uh C.P e fs, aY L with
      | some x, true => k (some (.fldA (ZN + e) xs.length 0)) L X (some (put (xs ++ [x])))
      | _, _ => none)
    | false => (match RN C.TB e with
      | some _ => EE C.TB σ e fun fs xs put => (match Vt C.P e fs, aY L with
        | some x, true => k (some (.fldA e xs.length 0)) L X (some (put (xs ++ [x])))
        | _, _ => none)
      | none => (match yI C.KL e, zeroOf C.P e with
        | some K, some z => (match isZero K z with
          | true => k none (.box d K (fB K) :: L) X none
          | false => none)
        | _, _ => none)))
  | some d, .box e x => (match fF C.caps d with
    | true => (match gz (look E []) [] x with
      | some en => EE C.TB σ (ZN + e) fun fs xs put => (match aaX fs en, aY L with
        | some x, true => k (some (.fldA (ZN + e) xs.length 0)) L X (some (put (xs ++ [x])))
        | _, _ => none)
      | none => none)
    | false => (match RN C.TB e with
      | some _ => (match x with
        | .tmp s => (match lkX X s with
          | some (.bld t bs) => EE C.TB σ e fun fs xs put => (match jI fs 0 bs L, aY L with
            | some (x, L', _), true => k (some (.fldA e xs.length 0)) L' X (some (put (xs ++ [x])))
            | _, _ => none)
          | _ => (match lk E s with
            | some (.kv K y) => EE C.TB σ e fun fs xs put => (match Ap fs K y, aY L with
              | some x, true => k (some (.fldA e xs.length 0)) L X (some (put (xs ++ [x])))
              | _, _ => none)
            | _ => none))
        | _ => none)
      | none => (match yI C.KL e, gz (look E []) [] x with
        | some K, some en => (match yl K en with
          | some y => k none (.box d K y :: L) X none
          | none => none)
        | _, _ => none)))
  | some d, .makeMap t none => (match C.ML.find? (fun p => Nat.beq p.1 t) with
    | some (_, kk, kv) => k none (.mp d kk kv [] :: L) X none
    | none => none)
  | _, _ => none
end

section
variable {St β : Type} {C : Cx St} {E : Env} {L R : List DT} {X : Xs} {σ σ' : St} {Ls : List LS} {dst : Option Nat} {a : Act} {w w' : World} {G G' : Gh} {oe : Option En} {v : Value} {g : Option Bool} {r : β}

theorem NP (hS : Stt C E L X σ Ls dst a w G) {fs : List Fk} : ∀ {ps : List (Nat × Operand)} {l : List (Nat × FB)}, KT fs (gz (look E []) []) L ps = some l →
    cO (fun (p : Nat × FB) (q : Nat × Value) => q.1 = p.1 ∧ FbR G a p.2 q.2.cells.toList) l (ps.map fun p => (p.1, a.eval p.2))
  | [], l, h => by simp [KT] at h; subst h; trivial
  | (j, x) :: ps, l, h => by
    unfold KT at h
    split at h
    · rename_i b l' hb hl
      simp only [Option.some.injEq] at h; subst h
      refine ⟨⟨rfl, ?_⟩, NP hS hl⟩
      show FbR G a b (a.eval x).cells.toList
      unfold aaV at hb
      split at hb
      · split at hb
        · rename_i e he
          split at hb
          · rename_i y hy
            simp only [Option.some.injEq] at hb; subst hb
            exact qh (jJ hy (hS.M _ _ he))
          · simp at hb
        · simp at hb
      · split at hb
        · rename_i he
          simp only [Option.some.injEq] at hb; subst hb
          have := hS.M _ _ he
          simp only [EnR] at this
          rw [this]; rfl
        · simp at hb
      · rename_i s hf
        split at hb
        · rename_i t ht
          simp only [Option.some.injEq] at hb; subst hb
          obtain ⟨t, R⟩ := t
          obtain ⟨kk, kv, m, rfl⟩ := CE (dF ht).1
          obtain ⟨b, hb⟩ := hS.hT _ (bz ht).1
          show (a.eval (.tmp s)).cells.toList = [iJ a s none]
          have : a.eval (.tmp s) = iJ a s none := rfl
          rw [this, hb]; rfl
        · simp at hb
      · simp at hb
    · simp at h

theorem ZI {P : Program} {o : Oper} {t : TypeId} {ps : Array (Nat × Operand)} {fields : Array Field} {zc : Array Value} {l : List (Nat × FB)} {fs : List Fk} {bs : List FB} {pr : List (Nat × Nat)} (hop : o.op = .build t ps) (hu : P.underlying t = some (.struct fields)) (hz : zeroOf P t = some (.agg zc))
    (hpa : cO (fun (p : Nat × FB) (q : Nat × Value) => q.1 = p.1 ∧ FbR G a p.2 q.2.cells.toList) l (ps.toList.map fun p => (p.1, a.eval p.2))) (hr : zN P fields.toList = some pr) (hx : Gq P fields zc.toList fs 0 0 l = some bs) :
    ∃ cs : Array Value, (execOp a.eval o).run P w = .ok (.value (.agg cs)) w ∧ Jv G a bs cs.toList := by
  obtain ⟨new, h1, h2, h3⟩ := IQ (P := P) (pl := (pr.toArray[·]?)) (fun f fd sz hf hs => by
    have := BL hr f fd sz (by simpa using hf) hs
    simpa using this) hx hpa rfl rfl
  simp only [List.take_zero, List.nil_append] at h1
  have hrun : (Instr.build t (ps.map fun p => (p.1, a.eval p.2))).run P w = .ok (.agg new.toArray) w := by
    refine run_build w t _ _ ?_
    unfold Program.built
    unfold zeroOf at hz
    cases hit : P.info? t with
    | none => rw [hit] at hz; simp at hz
    | some it =>
      rw [hit] at hz
      simp only at hz
      simp only [hu, hz]
      unfold zN at hr
      rw [hr]
      simp only [Value.cells, Array.toList_map]
      exact h1
  refine ⟨new.toArray, ?_, by simpa using h2⟩
  simp only [execOp, hop]
  exact dA hrun

theorem AddT.of {TB : List (TbI St)} {t : Nat} {fs : List Fk} {xs : List (az fs)} {put : List (az fs) → St} {x : az fs} (h1 : aU TB σ t = some ⟨fs, xs⟩) (h2 : ∀ ys, aU TB (put ys) t = some ⟨fs, ys⟩) (h3 : ∀ ys t', t' ≠ t → aU TB (put ys) t' = aU TB σ t') :
    AddT (aU TB σ) (aU TB (put (xs ++ [x]))) t xs.length fs x := ⟨xs, h1, h2 _, rfl, h3 _⟩
theorem Ip.of {TB : List (TbI St)} {t i : Nat} {fs : List Fk} {xs : List (az fs)} {put : List (az fs) → St} {x : az fs} (h1 : aU TB σ t = some ⟨fs, xs⟩) (h2 : ∀ ys, aU TB (put ys) t = some ⟨fs, ys⟩) (h3 : ∀ ys t', t' ≠ t → aU TB (put ys) t' = aU TB σ t') :
    Ip (aU TB σ) (aU TB (put (xs.set i x))) t i fs x := ⟨⟨xs, h1, h2 _⟩, h3 _⟩

theorem Zf {P : Program} {e : TypeId} {z : Value} (hz : zeroOf P e = some z) : (zeroValue e).run P w = .ok z w := by
  unfold zeroOf at hz
  split at hz
  · rename_i it hit; simp [zeroValue, typeInfo, hit, hz]
  · simp at hz
theorem DW {P : Program} {o : Oper} {e : TypeId} {z : Value} (hop : o.op = .alloc e) (hz : zeroOf P e = some z) : (execOp a.eval o).run P w = .ok (.value (.pointer (some ⟨w.heap.size, 0, none⟩))) (w.alloc (.cells z.cells e)) := by
  simp only [execOp, hop]
  exact dA (by simp [Instr.alloc, newVar, newRow, Zf hz])
theorem AQ {P : Program} {o : Oper} {e : TypeId} {x : Operand} (hop : o.op = .box e x) : (execOp a.eval o).run P w = .ok (.value (.pointer (some ⟨w.heap.size, 0, none⟩))) (w.alloc (.cells (a.eval x).cells e)) := by
  simp only [execOp, hop]
  exact dA (by simp [Instr.box, newVar, newRow])

theorem RZ {P : Program} {e : TypeId} {fs : List Fk} {x : az fs} (h : Vt P e fs = some x) : ∃ z, zeroOf P e = some z ∧ ∀ {w : World} {G : Gh} {M : List LS} {t i : Nat}, (∀ f, aK t i f M = none) → pR w G M t i 0 fs x z.cells.toList := by
  unfold Vt at h
  split at h
  · rename_i e0 bt k
    split at h
    · rename_i hz
      simp only [Option.some.injEq] at h; subst h
      refine ⟨_, hz, fun {w G M t i} hh => ⟨[.slice none 0 0], [], rfl, ?_, rfl⟩⟩
      show FkR w G (aK t i 0 M) t i 0 (.own e0 bt k) [] _
      rw [hh 0]
      exact ⟨_, rfl, KQ _ _ _ _ _ _⟩
    · simp at h
  · split at h
    · rename_i fields zc hu hz
      split at h
      · rename_i bs hb
        split at h
        · rename_i x' ho
          simp only [Option.some.injEq] at h; subst h
          refine ⟨_, hz, fun {w G M t i} hh => ?_⟩
          have hpl : ∀ (f : Nat) (fd : Field) (sz : Nat), fields[f]? = some fd → fA P fd.type = some sz → (fun f => (fields[f]?).bind fun fd => (fA P fd.type).map fun sz => (fd.offset, sz)) f = some (fd.offset, sz) := by
            intro f fd sz h1 h2
            simp [h1, h2]
          obtain ⟨new, h1, h2, h3⟩ := IQ (G := G) (a := ⟨#[], []⟩) (vs := []) (cells := zc) hpl hb trivial rfl rfl
          simp only [Instr.fill, List.take_zero, List.nil_append, Option.some.injEq] at h1
          have : zc.toList = new := by rw [h1]
          exact (y9 (w2 := w) (Gh.le_refl G) hh ho (by rw [show (Value.agg zc).cells.toList = new from this]; exact h2)).2
        · simp at h
      · simp at h
    · simp at h
theorem W9 {P : Program} {e : TypeId} {fs : List Fk} {x : az fs} (h : Uh P e fs = some x) : ∃ z, zeroOf P e = some z ∧ ∀ {w : World} {G : Gh} {M : List LS} {t i : Nat}, (∀ f, aK t i f M = none) → pR w G M t i 0 fs x z.cells.toList := by
  unfold Uh at h
  split at h
  · rename_i K
    split at h
    · rename_i z hz
      split at h
      · rename_i hzz
        simp only [Option.some.injEq] at h; subst h
        exact ⟨z, hz, fun {w G M t i} _ => ⟨_, [], by simp, qh (CG (G := G) hzz), rfl⟩⟩
      · simp at h
    · simp at h
  · exact RZ h
theorem Vk : ∀ {fs : List Fk} {K : Kd} {y : K.den} {x : az fs}, Ap fs K y = some x → Xg fs K x y
  | [], .unit, _, _, h => trivial
  | .p k :: r, .pair k' K, y, x, h => by
    simp only [Ap] at h
    split at h
    · rename_i hk
      subst hk
      split at h
      · rename_i x' hx
        simp only [Option.some.injEq] at h; subst h
        exact ⟨rfl, HEq.rfl, Vk hx⟩
      · simp at h
    · simp at h
  | [], .int _, _, _, h => by simp [Ap] at h
  | [], .bool, _, _, h => by simp [Ap] at h
  | [], .str, _, _, h => by simp [Ap] at h
  | [], .ptr _, _, _, h => by simp [Ap] at h
  | [], .list _, _, _, h => by simp [Ap] at h
  | [], .pair _ _, _, _, h => by simp [Ap] at h
  | .p _ :: _, .unit, _, _, h => by simp [Ap] at h
  | .p _ :: _, .int _, _, _, h => by simp [Ap] at h
  | .p _ :: _, .bool, _, _, h => by simp [Ap] at h
  | .p _ :: _, .str, _, _, h => by simp [Ap] at h
  | .p _ :: _, .ptr _, _, _, h => by simp [Ap] at h
  | .p _ :: _, .list _, _, _, h => by simp [Ap] at h
  | .own _ _ _ :: _, _, _, _, h => by simp [Ap] at h
  | .omap _ _ :: _, _, _, _, h => by simp [Ap] at h

theorem Stt.Pz (hS : Stt C E L X σ Ls dst a w G) (h : aY L = true) : aN (L.map (toL a) ++ Ls) := dQ hS.hN h

theorem ZY (hTB : qg C.TB) {o : Oper} {k : Option En → List DT → Xs → Option St → Option β} (h : aba C o E L X σ k = some r) :
    ∃ oe L' X' os, k oe L' X' os = some r ∧ ∀ Ls a w G, Stt C E L X σ Ls o.dst a w G → ug C.P o a w (Out C o.dst a G Ls oe L' X' (os.getD σ)) := by
  unfold aba at h
  split at h
  · rename_i d t ps hdst hop
    rw [hdst]
    split at h
    · rename_i fs hfs
      split at h
      · rename_i fields zc l hu hz hl
        split at h
        · rename_i pr bs hpr hbs
          split at h
          · rename_i huse
            refine ⟨_, _, _, _, h, fun Ls a w G hS => ?_⟩
            obtain ⟨cs, h1, h2⟩ := ZI (w := w) hop hu hz (NP hS hl) hpr hbs
            refine .value h1 ⟨G, Gh.le_refl G, iK, hS.T' _ (fun _ ht => ht), by rw [hS.L' _ (fun _ ht => ht)]; exact hS.hH, ?_⟩
            intro p hp
            rcases List.mem_cons.1 hp with rfl | hp
            · show DXR G (a.put (some d) _) (.bld t bs) ((a.put (some d) _).tmps.getD d Go.undef)
              rw [zg (hS.sz rfl)]
              exact ⟨cs, rfl, Jw huse h2⟩
            · exact hS.X' (Gh.le_refl G) _ p hp
          · simp at h
        · simp at h
      · simp at h
    · simp at h
  · rename_i d e hdst hop
    rw [hdst]
    have mk : ∀ {t : Nat} {fs : List Fk} {xs : List (az fs)} {put : List (az fs) → St} {x : az fs}, aU C.TB σ t = some ⟨fs, xs⟩ → (∀ ys, aU C.TB (put ys) t = some ⟨fs, ys⟩) → (∀ ys t', t' ≠ t → aU C.TB (put ys) t' = aU C.TB σ t') →
        (∃ z, zeroOf C.P e = some z ∧ ∀ {w : World} {G : Gh} {M : List LS} {t i : Nat}, (∀ f, aK t i f M = none) → pR w G M t i 0 fs x z.cells.toList) → aY L = true →
        ∀ Ls a w G, Stt C E L X σ Ls (some d) a w G → ug C.P o a w (Out C (some d) a G Ls (some (.fldA t xs.length 0)) L X (put (xs ++ [x]))) := by
      intro t fs xs put x h1 h2 h3 hz hnh Ls a w G hS
      obtain ⟨z, hz1, hz2⟩ := hz
      have hnh' := hS.Pz hnh
      refine .value (DW hop hz1) (hS.keep (fun _ ht => ht) (Gh.iH hS.hH _) (bW ⟨w.heap.size, Gh.aA _ _ _, rfl⟩) (hS.hH.newObj (AddT.of h1 h2 h3) e (hz2 fun f => hnh' _ _ _)))
    split at h
    · obtain ⟨fs, xs, put, h0, h1, h2, h3⟩ := vP hTB h
      split at h0
      · rename_i x hx hnh
        exact ⟨_, _, _, _, h0, mk h1 h2 h3 (W9 hx) hnh⟩
      · simp at h0
    · split at h
      · obtain ⟨fs, xs, put, h0, h1, h2, h3⟩ := vP hTB h
        split at h0
        · rename_i x hx hnh
          exact ⟨_, _, _, _, h0, mk h1 h2 h3 (RZ hx) hnh⟩
        · simp at h0
      · split at h
        · rename_i K z hK hz
          split at h
          · rename_i hzz
            refine ⟨_, _, _, _, h, fun Ls a w G hS => .value (DW hop hz) (hS.new (fun _ ht => ht) (Gh.iH hS.hH .loc) iK ⟨w.heap.size, hS.val _⟩ ?_)⟩
            simp only [toL]
            rw [hS.val]
            exact hS.hH.box e (CG hzz)
          · simp at h
        · simp at h
  · rename_i d e x hdst hop
    rw [hdst]
    split at h
    · split at h
      · rename_i en hen
        obtain ⟨fs, xs, put, h0, h1, h2, h3⟩ := vP hTB h
        split at h0
        · rename_i x' hx hnh
          refine ⟨_, _, _, _, h0, fun Ls a w G hS => .value (AQ hop) (hS.keep (fun _ ht => ht) (Gh.iH hS.hH _) (bW ⟨w.heap.size, Gh.aA _ _ _, rfl⟩) (hS.hH.newObj (AddT.of h1 h2 h3) e ?_))⟩
          unfold aaX at hx
          split at hx
          · split at hx
            · rename_i y hy
              simp only [Option.some.injEq] at hx; subst hx
              exact ⟨_, [], by simp, eP (Gh.iH hS.hH _) (qh (jJ hy (hS.M _ _ hen))), rfl⟩
            · simp at hx
          · simp at hx
        · simp at h0
      · simp at h
    · split at h
      · split at h
        · rename_i s
          split at h
          · rename_i t bs hbl
            obtain ⟨fs, xs, put, h0, h1, h2, h3⟩ := vP hTB h
            split at h0
            · rename_i x' L' m hx hnh
              refine ⟨_, _, _, _, h0, fun Ls a w G hS => ?_⟩
              have hnh' := hS.Pz hnh
              obtain ⟨cs, hv, hcs⟩ := hS.hX _ (FK hbl)
              have hv' : a.eval (.tmp s) = .agg cs := hv
              cases m with
              | none =>
                have hLL := PG hx
                subst hLL
                refine .value (AQ hop) (hS.keep (fun _ ht => ht) (Gh.iH hS.hH _) (bW ⟨w.heap.size, Gh.aA _ _ _, rfl⟩) (hS.hH.newObj (AddT.of h1 h2 h3) e ?_))
                rw [hv']
                exact (y9 (Gh.iH hS.hH _) (fun f => hnh' _ _ _) hx hcs).2
              | some m =>
                obtain ⟨s', g⟩ := m
                obtain ⟨kk, kv, m, k1, k2⟩ := G5 (a := a) (G := G) (t := e) (i := xs.length) hx
                obtain ⟨rr, hrr⟩ := hS.hT _ (bz k1).1
                have hH := hS.hH.dw k1 (fun _ _ _ _ hh => by cases hh)
                simp only [toL] at hH
                rw [hrr] at hH
                have hnh2 : aN (L'.map (toL a) ++ Ls) := dQ hS.hN (yc hnh (bz k1).2)
                have hsub := (bz k1).2
                have hrole := (hH.loc _ List.mem_cons_self).1
                have hrlt : rr < w.heap.size := hH.lt (by simp only [Iu] at hrole; rw [hrole]; simp)
                obtain ⟨hle, hH'⟩ := hH.aaw (f := g) (AddT.of (x := x') h1 h2 h3) e (cs := (a.eval (.tmp s)).cells) (fun w2 G2 q0 q1 q2 => by
                  rw [hv']
                  exact k2 (w2 := w2) (G2 := G2) (M := L'.map (toL a) ++ Ls) q0 (fun f => hnh2 _ _ _) ⟨rr, hrr, q1, q2⟩ hcs)
                refine .value (AQ hop) (hS.keep hsub hle (bW ⟨w.heap.size, ?_, rfl⟩) hH')
                rw [Gh.aW _ _ (by simp only [Iu]; omega), Gh.aA]
            · simp at h0
          · split at h
            · rename_i K y hy
              obtain ⟨fs, xs, put, h0, h1, h2, h3⟩ := vP hTB h
              split at h0
              · rename_i x' hx hnh
                refine ⟨_, _, _, _, h0, fun Ls a w G hS => .value (AQ hop) (hS.keep (fun _ ht => ht) (Gh.iH hS.hH _) (bW ⟨w.heap.size, Gh.aA _ _ _, rfl⟩) (hS.hH.newObj (AddT.of h1 h2 h3) e ?_))⟩
                exact MC (Vk hx) (eP (Gh.iH hS.hH _) (qh (hS.hE.2.2 _ _ hy)))
              · simp at h0
            · simp at h
        · simp at h
      · split at h
        · rename_i K en hK hen
          split at h
          · rename_i y hy
            refine ⟨_, _, _, _, h, fun Ls a w G hS => .value (AQ hop) (hS.new (fun _ ht => ht) (Gh.iH hS.hH .loc) iK ⟨w.heap.size, hS.val _⟩ ?_)⟩
            simp only [toL]
            rw [hS.val]
            exact hS.hH.box e (jJ hy (hS.M _ _ hen))
          · simp at h
        · simp at h
  · rename_i d t hdst hop
    rw [hdst]
    split at h
    · rename_i t' kk kv hf
      refine ⟨_, _, _, _, h, fun Ls a w G hS => .value (v := .map (some w.heap.size)) (w' := w.alloc (.map #[] 0)) ?_ (hS.new (fun _ ht => ht) (Gh.iH hS.hH .loc) iK ⟨w.heap.size, hS.val _⟩ ?_)⟩
      · simp only [execOp, hop]
        exact dA (by simp [Instr.makeMap, newObj, Sem.run])
      · simp only [toL]
        rw [hS.val]
        exact hS.hH.abV kk kv
    · simp at h
  · simp at h
end
end Go.Proofs.YtbnmhjobnepajaaGreat.M

