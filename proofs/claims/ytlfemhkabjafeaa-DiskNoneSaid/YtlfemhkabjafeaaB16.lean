/- Own library, part 16: new maps, and new objects that hold one. -/
import Derived.Test.YtlfemhkabjafeaaB15
set_option linter.unusedVariables false
set_option linter.unusedSimpArgs false
namespace Go.Proofs.Ytlfemhkabjafeaa.M

section
variable {P : Program} {w : World} {G : Gh} {T T' : Tabs} {Ls : List LS} {a : Act} {N : Nat} {E : Env} {ops : Array Oper} {Q : Exit → Act → World → Prop}

theorem Holds.newMap (h : Holds w G T Ls) (kk kv : Kd) : Holds (w.alloc (.map #[] 0)) (G.set w.heap.size .loc) T (.mp w.heap.size kk kv [] :: Ls) :=
  h.allocLoc _ .loc _ (.inl rfl) (by unfold BlockOK; rw [Gh.set_same]; trivial) ⟨Gh.set_same _ _ _, #[], 0, heap_alloc_new' w _, trivial, fun _ h => by simp at h, by simp⟩ rfl (fun _ _ _ => rfl)

def mkMapE (ops : Array Oper) (E : Env) (i : Nat) : Option (Option Nat) :=
  match ops[i]? with
  | some o => (match goes ops (look E []) o, o.op with
    | true, .makeMap _ none => some o.dst
    | _, _ => none)
  | none => none

theorem stepMakeMap (kk kv : Kd) {d : Option Nat} {i : Nat} (hE : EnvR G N a E) (hH : Holds w G T Ls) (hb : mkMapE ops E i = some d) (hd : dstOK d N = true)
    (k : ∀ r a' w' G', G.le G' → EnvR G' N a' (putE d (.val (.map (some r))) E) → Holds w' G' T (.mp r kk kv [] :: Ls) → wpFrom P ops Q (i + 1) a' w') : wpFrom P ops Q i a w := by
  unfold mkMapE at hb
  split at hb
  · rename_i o ho
    split at hb
    · rename_i mt hg hop
      simp only [Option.some.injEq] at hb
      subst hb
      refine wpFrom_value ho (goes_ok (CurR_start hE) hg) (v := .map (some w.heap.size)) (w' := w.alloc (.map #[] 0)) ?_ (k _ _ _ _ (Gh.le_new hH _) ((hE.mono (Gh.le_new hH .loc)).putO hd rfl) (hH.newMap kk kv))
      simp only [execOp, hop]
      exact run_val (by simp [Instr.makeMap, newObj, Sem.run])
    · simp at hb
  · simp at hb

/-! ### Struct values that are known exactly -/
def exactV : En → Option Value
  | .val v => some v
  | .kv (.int k) n => some (.int k n)
  | .kv .bool b => some (.bool b)
  | .kv .str s => some (.string ⟨List.toArray s⟩)
  | .kv (.ptr _) none => some (.pointer none)
  | .kv (.list _) [] => none
  | _ => none

theorem exactV_ok {e : En} {u v : Value} (h : exactV e = some u) (he : EnR G e v) : v = u := by
  unfold exactV at h
  split at h
  · simp only [Option.some.injEq] at h; subst h; exact he
  · simp only [Option.some.injEq] at h; subst h; exact (VR_int (G := G)).1 he
  · simp only [Option.some.injEq] at h; subst h; exact (VR_bool (G := G)).1 he
  · simp only [Option.some.injEq] at h; subst h; exact (VR_str (G := G)).1 he
  · simp only [Option.some.injEq] at h; subst h
    obtain ⟨u, rfl, hu⟩ := VR_ptr.1 he
    simp only [ptrR] at hu; rw [hu]
  · simp at h
  · simp at h

def partsV (look : Nat → Option En) : List (Nat × Operand) → Option (List (Nat × Value))
  | [] => some []
  | (i, x) :: r => (match opnd look [] x with
    | some e => (match exactV e with
      | some v => (match partsV look r with
        | some l => some ((i, v) :: l)
        | none => none)
      | none => none)
    | none => none)

theorem partsV_ok {L : Nat → Option En} (hL : CurR G a L) : ∀ {xs : List (Nat × Operand)} {l : List (Nat × Value)}, partsV L xs = some l → xs.map (fun p => (p.1, a.eval p.2)) = l
  | [], l, h => by simp [partsV] at h; subst h; rfl
  | (i, x) :: r, l, h => by
    unfold partsV at h
    split at h
    · rename_i e he
      split at h
      · rename_i v hv
        split at h
        · rename_i l' hl
          simp only [Option.some.injEq] at h; subst h
          simp only [List.map_cons, partsV_ok hL hl]
          rw [exactV_ok hv (opnd_ok hL (by simp) he)]
        · simp at h
      · simp at h
    · simp at h

def buildVE (P : Program) (ops : Array Oper) (E : Env) (i : Nat) : Option (Value × Option Nat) :=
  match ops[i]? with
  | some o => (match goes ops (look E []) o, o.op with
    | true, .build t parts => (match partsV (look E []) parts.toList with
      | some l => (match P.built t l with
        | some cells => some (.agg cells, o.dst)
        | none => none)
      | none => none)
    | _, _ => none)
  | none => none

theorem stepBuildV (v : Value) {d : Option Nat} {i : Nat} (hE : EnvR G N a E) (hb : buildVE P ops E i = some (v, d)) (hd : dstOK d N = true)
    (k : ∀ a', EnvR G N a' (putE d (.val v) E) → wpFrom P ops Q (i + 1) a' w) : wpFrom P ops Q i a w := by
  unfold buildVE at hb
  split at hb
  · rename_i o ho
    split at hb
    · rename_i t parts hg hop
      split at hb
      · rename_i l hl
        split at hb
        · rename_i cells hc
          simp only [Option.some.injEq, Prod.mk.injEq] at hb
          obtain ⟨rfl, rfl⟩ := hb
          refine wpFrom_value ho (goes_ok (CurR_start hE) hg) (v := .agg cells) (w' := w) ?_ (k _ (hE.putO hd rfl))
          simp only [execOp, hop]
          refine run_val (run_build w t _ _ ?_)
          rw [Array.toList_map, partsV_ok (CurR_start hE) hl]
          exact hc
        · simp at hb
      · simp at hb
    · simp at hb
  · simp at hb

theorem Holds.newObjM {r : Nat} {kk kv : Kd} {m : List (kk.den × kv.den)} (h : Holds w G T (.mp r kk kv m :: Ls)) {t i f : Nat} {fs : List Fk} {x : denFs fs} (hT : AddT T T' t i fs x) {cs : Array Value} (e : TypeId)
    (hob : ∀ (w2 : World) (G2 : Gh), G2.role r = .fld t i f → (∃ es cl, w2.heap[r]? = some (.map es cl) ∧ mapR G2 kk kv m es.toList cl) → ObjR w2 G2 Ls t i 0 fs x cs.toList) :
    G.le ((G.set w.heap.size (.obj t i)).set r (.fld t i f)) ∧ Holds (w.alloc (.cells cs e)) ((G.set w.heap.size (.obj t i)).set r (.fld t i f)) T' Ls := by
  obtain ⟨hr, es, cl, hes, hm⟩ := h.loc _ List.mem_cons_self
  have hrlt : r < w.heap.size := h.lt (by rw [hr]; simp)
  obtain ⟨xs, h1, h2, h3, h4⟩ := hT
  subst h3
  have hno : ∀ b, G.role b ≠ .obj t xs.length := by
    intro b hb
    have := h.block b
    unfold BlockOK at this
    rw [hb] at this
    obtain ⟨tab, y, ce, ty, k1, k2, _⟩ := this
    rw [h1] at k1
    simp only [Option.some.injEq] at k1; subst k1
    simp at k2
  have hnf : ∀ b f', G.role b ≠ .fld t xs.length f' := by
    intro b f' hb
    obtain ⟨tab, k1, k2⟩ := h.fex b _ _ _ hb
    rw [h1] at k1
    simp only [Option.some.injEq] at k1; subst k1
    simp at k2
  have hle1 : G.le (G.set w.heap.size (.obj t xs.length)) := Gh.le_new h _
  have hle : G.le ((G.set w.heap.size (.obj t xs.length)).set r (.fld t xs.length f)) := by
    refine Gh.le_trans hle1 (Gh.le_set ?_)
    rw [Gh.set_ne _ _ (by omega), hr]
    trivial
  have hrole : ∀ b, b ≠ w.heap.size → b ≠ r → ((G.set w.heap.size (.obj t xs.length)).set r (.fld t xs.length f)).role b = G.role b := fun b k1 k2 => by rw [Gh.set_ne _ _ k2, Gh.set_ne _ _ k1]
  have hnew : ((G.set w.heap.size (.obj t xs.length)).set r (.fld t xs.length f)).role w.heap.size = .obj t xs.length := by rw [Gh.set_ne _ _ (by omega), Gh.set_same]
  have hrr : ((G.set w.heap.size (.obj t xs.length)).set r (.fld t xs.length f)).role r = .fld t xs.length f := Gh.set_same _ _ _
  have hnr : r ∉ Ls.filterMap LS.blk := by
    have := h.nd
    rw [List.filterMap_cons_some (show LS.blk (.mp r kk kv m) = some r from rfl)] at this
    exact (List.nodup_cons.1 this).1
  refine ⟨hle, h.change (fun b => b = w.heap.size ∨ b = r) hle ⟨rfl, rfl, rfl⟩ ?_ ?_ ?_ ?_ ?_ ?_ ?_ ?_ ?_ ?_⟩
  · intro b hb
    simp at hb
    rw [hrole b (by omega) (by omega)]
    exact h.free b (by omega)
  · intro b hb
    exact ⟨heap_alloc_ne w _ (fun he => hb (.inl he)), hrole b (fun he => hb (.inl he)) (fun he => hb (.inr he))⟩
  · intro b hb
    rcases hb with rfl | rfl
    · unfold BlockOK
      rw [hnew]
      refine ⟨_, x, cs, e, h2, by simp, heap_alloc_new' w _, hob _ _ hrr ⟨es, cl, ?_, mapR_mono hle hm⟩⟩
      rw [heap_alloc_ne w _ (by omega)]; exact hes
    · unfold BlockOK; rw [hrr]; trivial
  · intro b t' i' hb hb' tab y cs' k1 k2 k3
    have hk : ObjR (w.alloc (.cells cs e)) ((G.set w.heap.size (.obj t xs.length)).set r (.fld t xs.length f)) Ls t' i' 0 tab.fs y cs' := by
      refine ObjR_keep hle (fun f2 => (holeAt_cons (fun _ _ _ => rfl) _ _ _ _).symm) (fun b2 f2 hb2 => ?_) k3
      have n1 : b2 ≠ w.heap.size := fun he => by
        have := h.free b2 (by omega)
        rcases hb2 with hb2 | ⟨p, hb2⟩ <;> rw [this] at hb2 <;> simp at hb2
      have n2 : b2 ≠ r := fun he => by
        subst he
        rcases hb2 with hb2 | ⟨p, hb2⟩ <;> rw [hr] at hb2 <;> simp at hb2
      exact ⟨heap_alloc_ne w _ n1, hrole b2 n1 n2⟩
    by_cases ht : t' = t
    · subst ht
      rw [h1] at k1
      simp only [Option.some.injEq] at k1; subst k1
      refine ⟨⟨fs, xs ++ [x]⟩, y, h2, ?_, hk⟩
      simp only at k2 ⊢
      rw [List.getElem?_append_left (List.getElem?_eq_some_iff.1 k2).1]; exact k2
    · exact ⟨tab, y, by rw [h4 t' ht]; exact k1, k2, hk⟩
  · intro l hl
    refine LSR_keep hle (fun b hb => ?_) (h.loc l (List.mem_cons_of_mem _ hl))
    have n1 : b ≠ w.heap.size := by
      have := h.blk_lt (List.mem_cons_of_mem _ hl) hb
      omega
    have n2 : b ≠ r := fun he => by
      subst he
      exact hnr (List.mem_filterMap.2 ⟨l, hl, hb⟩)
    exact ⟨heap_alloc_ne w _ n1, hrole b n1 n2⟩
  · have := h.nd
    rw [List.filterMap_cons_some (show LS.blk (.mp r kk kv m) = some r from rfl)] at this
    exact (List.nodup_cons.1 this).2
  · intro t' tab i' k1 k2
    have keep : ∀ b, G.role b = .obj t' i' → ((G.set w.heap.size (.obj t xs.length)).set r (.fld t xs.length f)).role b = .obj t' i' := fun b hb => by
      rw [hrole b (fun he => by rw [h.free b (by omega)] at hb; simp at hb) (fun he => by subst he; rw [hr] at hb; simp at hb)]; exact hb
    by_cases ht : t' = t
    · subst ht
      rw [h2] at k1
      simp only [Option.some.injEq] at k1; subst k1
      simp only [List.length_append, List.length_cons, List.length_nil] at k2
      rcases Nat.lt_or_ge i' xs.length with k3 | k3
      · obtain ⟨b, hb⟩ := h.ex _ _ i' h1 k3
        exact ⟨b, keep b hb⟩
      · exact ⟨w.heap.size, by rw [hnew, show i' = xs.length by omega]⟩
    · rw [h4 _ ht] at k1
      obtain ⟨b, hb⟩ := h.ex _ _ i' k1 k2
      exact ⟨b, keep b hb⟩
  · intro b b' t' i' k1 k2
    by_cases c1 : b = r
    · subst c1; rw [hrr] at k1; simp at k1
    · by_cases c2 : b' = r
      · subst c2; rw [hrr] at k2; simp at k2
      · by_cases d1 : b = w.heap.size
        · by_cases d2 : b' = w.heap.size
          · rw [d1, d2]
          · subst d1
            rw [hnew] at k1
            simp only [Role.obj.injEq] at k1
            rw [hrole b' d2 c2, ← k1.1, ← k1.2] at k2
            exact (hno _ k2).elim
        · by_cases d2 : b' = w.heap.size
          · subst d2
            rw [hnew] at k2
            simp only [Role.obj.injEq] at k2
            rw [hrole b d1 c1, ← k2.1, ← k2.2] at k1
            exact (hno _ k1).elim
          · rw [hrole b d1 c1] at k1
            rw [hrole b' d2 c2] at k2
            exact h.inj _ _ _ _ k1 k2
  · intro b b' t' i' f' k1 k2
    by_cases d1 : b = w.heap.size
    · subst d1; rw [hnew] at k1; simp at k1
    · by_cases d2 : b' = w.heap.size
      · subst d2; rw [hnew] at k2; simp at k2
      · by_cases c1 : b = r
        · by_cases c2 : b' = r
          · rw [c1, c2]
          · subst c1
            rw [hrr] at k1
            simp only [Role.fld.injEq] at k1
            rw [hrole b' d2 c2, ← k1.1, ← k1.2.1] at k2
            exact (hnf _ _ k2).elim
        · by_cases c2 : b' = r
          · subst c2
            rw [hrr] at k2
            simp only [Role.fld.injEq] at k2
            rw [hrole b d1 c1, ← k2.1, ← k2.2.1] at k1
            exact (hnf _ _ k1).elim
          · rw [hrole b d1 c1] at k1
            rw [hrole b' d2 c2] at k2
            exact h.finj _ _ _ _ _ k1 k2
  · intro b t' i' f' k1
    by_cases d1 : b = w.heap.size
    · subst d1; rw [hnew] at k1; simp at k1
    · by_cases c1 : b = r
      · subst c1
        rw [hrr] at k1
        simp only [Role.fld.injEq] at k1
        obtain ⟨rfl, rfl, rfl⟩ := k1
        exact ⟨_, h2, by simp⟩
      · rw [hrole b d1 c1] at k1
        obtain ⟨tab, k2, k3⟩ := h.fex _ _ _ _ k1
        by_cases ht : t' = t
        · subst ht
          rw [h1] at k2
          simp only [Option.some.injEq] at k2; subst k2
          exact ⟨_, h2, by simp only at k3; simp; omega⟩
        · exact ⟨tab, by rw [h4 _ ht]; exact k2, k3⟩

def boxVE (ops : Array Oper) (E : Env) (i : Nat) : Option (Value × TypeId × Option Nat) :=
  match ops[i]? with
  | some o => (match goes ops (look E []) o, o.op with
    | true, .box e x => (match opnd (look E []) [] x with
      | some (.val v) => some (v, e, o.dst)
      | _ => none)
    | _, _ => none)
  | none => none

/-- An exactly known value, that holds a new map, becomes an object. -/
theorem stepNewM {r : Nat} {kk kv : Kd} {m : List (kk.den × kv.den)} (v : Value) {t j f : Nat} {fs : List Fk} {x : denFs fs} {e : TypeId} {d : Option Nat} {i : Nat} (hE : EnvR G N a E) (hH : Holds w G T (.mp r kk kv m :: Ls)) (hb : boxVE ops E i = some (v, e, d)) (hd : dstOK d N = true)
    (hob : ∀ (w2 : World) (G2 : Gh), G2.role r = .fld t j f → (∃ es cl, w2.heap[r]? = some (.map es cl) ∧ mapR G2 kk kv m es.toList cl) → ObjR w2 G2 Ls t j 0 fs x v.cells.toList) (hT : AddT T T' t j fs x)
    (k : ∀ a' w' G', G.le G' → EnvR G' N a' (putE d (.fldA t j 0) E) → Holds w' G' T' Ls → wpFrom P ops Q (i + 1) a' w') : wpFrom P ops Q i a w := by
  unfold boxVE at hb
  split at hb
  · rename_i o ho
    split at hb
    · rename_i e' x0 hg hop
      split at hb
      · rename_i v' hy
        simp only [Option.some.injEq, Prod.mk.injEq] at hb
        obtain ⟨rfl, rfl, rfl⟩ := hb
        have hv : a.eval x0 = v' := opnd_ok (CurR_start hE) (by simp) hy
        obtain ⟨hle, hH'⟩ := hH.newObjM (f := f) hT e' hob
        have hrlt : r < w.heap.size := by
          obtain ⟨hr, _⟩ := hH.loc _ List.mem_cons_self
          exact hH.lt (by rw [hr]; simp)
        refine wpFrom_value ho (goes_ok (CurR_start hE) hg) (v := .pointer (some ⟨w.heap.size, 0, none⟩)) (w' := w.alloc (.cells v'.cells e')) ?_
          (k _ _ _ hle ((hE.mono hle).putO hd ⟨w.heap.size, by rw [Gh.set_ne _ _ (by omega), Gh.set_same], rfl⟩) hH')
        simp only [execOp, hop, hv]
        exact run_val (by simp [Instr.box, newVar, newRow])
      · simp at hb
    · simp at hb
  · simp at hb
end
end Go.Proofs.Ytlfemhkabjafeaa.M
