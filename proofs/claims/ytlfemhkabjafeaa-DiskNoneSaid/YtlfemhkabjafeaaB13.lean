/- Own library, part 13: functions as values; new objects of the tables. -/
import Derived.Test.YtlfemhkabjafeaaB12
set_option linter.unusedVariables false
set_option linter.unusedSimpArgs false
namespace Go.Proofs.Ytlfemhkabjafeaa.M

section
variable {P : Program} {w : World} {G : Gh} {T T' : Tabs} {Ls : List LS} {a : Act} {N : Nat} {E : Env} {ops : Array Oper} {Q : Exit → Act → World → Prop}

/-! ### Functions as values -/
def capsE (look : Nat → Option En) : List Operand → Option (List (Nat × Nat))
  | [] => some []
  | x :: r => (match opnd look [] x with
    | some (.fldA t i 0) => (match capsE look r with
      | some l => some ((t, i) :: l)
      | none => none)
    | _ => none)

theorem capsE_ok {L : Nat → Option En} (hL : CurR G a L) : ∀ {xs : List Operand} {l : List (Nat × Nat)}, capsE L xs = some l →
    All2 (fun (p : Nat × Nat) (u : Value) => ∃ b, G.role b = .obj p.1 p.2 ∧ u = .pointer (some ⟨b, 0, none⟩)) l (xs.map a.eval)
  | [], l, h => by simp [capsE] at h; subst h; trivial
  | x :: xs, l, h => by
    unfold capsE at h
    split at h
    · rename_i t i hx
      split at h
      · rename_i l' hl
        simp only [Option.some.injEq] at h; subst h
        exact ⟨opnd_ok hL (by simp) hx, capsE_ok hL hl⟩
      · simp at h
    · simp at h

def mfE (ops : Array Oper) (E : Env) (i : Nat) : Option (Nat × List (Nat × Nat) × Option Nat) :=
  match ops[i]? with
  | some o => (match goes ops (look E []) o, o.op with
    | true, .makeFunc (.func f) first caps => (match first.toList with
      | [] => (match capsE (look E []) caps.toList with
        | some l => some (f, l, o.dst)
        | none => none)
      | _ => none)
    | _, _ => none)
  | none => none

theorem stepMF {f : Nat} {l : List (Nat × Nat)} {d : Option Nat} {i : Nat} (hE : EnvR G N a E) (hb : mfE ops E i = some (f, l, d)) (hd : dstOK d N = true)
    (k : ∀ a', EnvR G N a' (putE d (.clo f l) E) → wpFrom P ops Q (i + 1) a' w) : wpFrom P ops Q i a w := by
  unfold mfE at hb
  split at hb
  · rename_i o ho
    split at hb
    · rename_i f' first caps hg hop
      split at hb
      · rename_i hfirst
        split at hb
        · rename_i l' hl
          simp only [Option.some.injEq, Prod.mk.injEq] at hb
          obtain ⟨rfl, rfl, rfl⟩ := hb
          have hf : first = #[] := by
            apply Array.ext'; simpa using hfirst
          subst hf
          refine wpFrom_value ho (goes_ok (CurR_start hE) hg) (v := .func (.func f') #[] (caps.toList.map a.eval).toArray) (w' := w) ?_ (k _ (hE.putO hd ⟨_, rfl, capsE_ok (CurR_start hE) hl⟩))
          simp only [execOp, hop]
          refine run_val ?_
          have : caps.map a.eval = (caps.toList.map a.eval).toArray := by apply Array.ext'; simp
          simp [Instr.makeFunc, this]
        · simp at hb
      · simp at hb
    · simp at hb
  · simp at hb

def fldEs : List (Nat × Nat) → List En
  | [] => []
  | (t, i) :: r => .fldA t i 0 :: fldEs r

theorem fldEs_ok : ∀ {l : List (Nat × Nat)} {vs : List Value}, All2 (fun (p : Nat × Nat) (u : Value) => ∃ b, G.role b = .obj p.1 p.2 ∧ u = .pointer (some ⟨b, 0, none⟩)) l vs → All2 (EnR G) (fldEs l) vs
  | [], [], h => trivial
  | (t, i) :: l, v :: vs, ⟨h1, h2⟩ => ⟨h1, fldEs_ok h2⟩
  | [], _ :: _, h => h.elim
  | _ :: _, [], h => h.elim

theorem All2_app {α β : Type} {R : α → β → Prop} : ∀ {xs : List α} {ys : List β} {xs' : List α} {ys' : List β}, All2 R xs ys → All2 R xs' ys' → All2 R (xs ++ xs') (ys ++ ys')
  | [], [], _, _, _, h => h
  | x :: xs, y :: ys, _, _, ⟨h1, h2⟩, h => ⟨h1, All2_app h2 h⟩
  | [], _ :: _, _, _, h, _ => h.elim
  | _ :: _, [], _, _, h, _ => h.elim

/-- A call of a function value at place i: which, over which variables, with what, and where its result goes. -/
def callCE (ops : Array Oper) (E : Env) (i : Nat) (ws : List En) : Option (Nat × List (Nat × Nat) × List En × Option Nat) :=
  match ops[i]? with
  | some o => (match goes ops (look E []) o with
    | true => (match o.op with
      | .call c => (match c.callee with
        | .value x => (match opnd (look E []) [] x with
          | some (.clo f l) => (match enOps (look E []) ws c.args.toList with
            | some es => some (f, l, es, o.dst)
            | none => none)
          | _ => none)
        | _ => none)
      | _ => none)
    | false => none)
  | none => none

theorem stepCallC {i f : Nat} {l : List (Nat × Nat)} {As : List En} {R : En} {d : Option Nat} (hS : Spec P f (As ++ fldEs l) T R T') (hE : EnvR G N a E) (hH : Holds w G T Ls) (hN : NoHole Ls)
    (hc : callCE ops E i As = some (f, l, As, d)) (hd : dstOK d N = true) (hout : True)
    (k : ∀ a' w' G', G.le G' → EnvR G' N a' (putE d R E) → Holds w' G' T' Ls → wpFrom P ops Q (i + 1) a' w') : wpFrom P ops Q i a w := by
  unfold callCE at hc
  split at hc
  · rename_i o ho
    split at hc
    · rename_i hgo
      have hw := goes_ok (CurR_start hE) hgo
      split at hc
      · rename_i c hop
        split at hc
        · rename_i x hcal
          split at hc
          · rename_i f' l' hx
            split at hc
            · rename_i es hes
              simp only [Option.some.injEq, Prod.mk.injEq] at hc
              obtain ⟨rfl, rfl, rfl, rfl⟩ := hc
              obtain ⟨vs, hv, hvs⟩ := opnd_ok (CurR_start hE) (by simp) hx
              rw [wpFrom_cons ho, if_pos hw]
              refine .inl ?_
              unfold Oper.wp
              have hr : (execOp a.eval o).run P w = .ok (.enter f' (c.args.toList.map a.eval ++ vs).toArray) w := by
                have hargs : (c.args.map a.eval) ++ vs.toArray = (c.args.toList.map a.eval ++ vs).toArray := by
                  apply Array.ext'; simp
                simp [execOp, hop, resolve, hcal, hv, Deferred.ofValue, invoke, callFunc_enter hS.ok, ← hargs]
              rw [hr]
              refine (hS.run _ w G Ls (All2_app (enOps_ok (CurR_start hE) hes) (fldEs_ok hvs)) hH hN).mono ?_
              intro e w' hp
              cases e with
              | returned v =>
                obtain ⟨G', hle, hv, hH'⟩ := hp
                exact k _ _ G' hle ((hE.mono hle).putO hd hv) hH'
              | panicked c => exact hp.elim
              | outgrown => exact False.elim hp
            · simp at hc
          · simp at hc
        · simp at hc
      · simp at hc
    · simp at hc
  · simp at hc

/-! ### New objects -/
def AddT (T T' : Tabs) (t i : Nat) (fs : List Fk) (x : denFs fs) : Prop := ∃ xs, T t = some ⟨fs, xs⟩ ∧ T' t = some ⟨fs, xs ++ [x]⟩ ∧ xs.length = i ∧ ∀ t', t' ≠ t → T' t' = T t'

theorem Holds.newObj (h : Holds w G T Ls) {t i : Nat} {fs : List Fk} {x : denFs fs} (hT : AddT T T' t i fs x) {cs : Array Value} (e : TypeId)
    (hob : ObjR (w.alloc (.cells cs e)) (G.set w.heap.size (.obj t i)) Ls t i 0 fs x cs.toList) : Holds (w.alloc (.cells cs e)) (G.set w.heap.size (.obj t i)) T' Ls := by
  obtain ⟨xs, h1, h2, h3, h4⟩ := hT
  subst h3
  have hno : ∀ b, G.role b ≠ .obj t xs.length := by
    intro b hb
    have := h.block b
    unfold BlockOK at this
    rw [hb] at this
    obtain ⟨tab, y, ce, ty, k1, k2, _⟩ := this
    rw [h1] at k1
    simp only [Option.some.injEq] at k1; subst k1
    simp at k2
  refine h.alloc _ _ T' Ls ?_ ?_ (fun _ _ _ => rfl) (fun l hl => .inl hl) h.nd ?_ ?_ (fun _ _ _ => by simp) ?_
  · unfold BlockOK
    rw [Gh.set_same]
    exact ⟨_, x, cs, e, h2, by simp, heap_alloc_new' w _, hob⟩
  · intro b t' i' hb tab y k1 k2
    by_cases ht : t' = t
    · subst ht
      rw [h1] at k1
      simp only [Option.some.injEq] at k1; subst k1
      exact .inr ⟨[x], h2⟩
    · exact .inl (by rw [h4 _ ht]; exact k1)
  · intro t' tab i' k1 k2
    by_cases ht : t' = t
    · subst ht
      rw [h2] at k1
      simp only [Option.some.injEq] at k1; subst k1
      simp only [List.length_append, List.length_cons, List.length_nil] at k2
      rcases Nat.lt_or_ge i' xs.length with k3 | k3
      · obtain ⟨b, hb⟩ := h.ex _ _ i' h1 k3
        exact ⟨b, by rw [Gh.set_ne _ _ (by have := h.lt (b := b) (by rw [hb]; simp); omega)]; exact hb⟩
      · exact ⟨w.heap.size, by rw [Gh.set_same, show i' = xs.length by omega]⟩
    · rw [h4 _ ht] at k1
      obtain ⟨b, hb⟩ := h.ex _ _ i' k1 k2
      exact ⟨b, by rw [Gh.set_ne _ _ (by have := h.lt (b := b) (by rw [hb]; simp); omega)]; exact hb⟩
  · intro t' i' hr b
    simp only [Role.obj.injEq] at hr
    obtain ⟨rfl, rfl⟩ := hr
    exact hno b
  · intro t' tab k1
    by_cases ht : t' = t
    · subst ht
      rw [h1] at k1
      simp only [Option.some.injEq] at k1; subst k1
      exact ⟨[x], h2⟩
    · exact ⟨[], by rw [h4 _ ht, k1]; simp⟩

/-- The fields of an object from a struct's value. -/
def SameF : (fs : List Fk) → (K : Kd) → denFs fs → K.den → Prop
  | [], .unit, _, _ => True
  | .p k :: r, .pair k' K, x, y => k = k' ∧ HEq x.1 y.1 ∧ SameF r K x.2 y.2
  | _, _, _, _ => False

theorem ObjR_same : ∀ {fs : List Fk} {K : Kd} {x : denFs fs} {y : K.den} {cs : List Value} {t i f : Nat}, SameF fs K x y → Kr G K y cs → ObjR w G Ls t i f fs x cs
  | [], .unit, _, _, cs, _, _, _, _, h => h
  | .p k :: r, .pair k' K, x, y, cs, t, i, f, hs, h => by
    obtain ⟨rfl, h1, h2⟩ := hs
    obtain ⟨c1, c2, rfl, k1, k2⟩ := h
    refine ⟨c1, c2, rfl, ?_, ObjR_same h2 k2⟩
    have : x.1 = y.1 := eq_of_heq h1
    show Kr G k x.1 c1
    rw [this]; exact k1

/-- A struct's value becomes an object. -/
theorem stepNew (K : Kd) (y : K.den) {t j : Nat} {fs : List Fk} {x : denFs fs} {e : TypeId} {d : Option Nat} {i : Nat} (hE : EnvR G N a E) (hH : Holds w G T Ls) (hb : boxE ops E i K = some (y, e, d)) (hd : dstOK d N = true)
    (hs : SameF fs K x y) (hT : AddT T T' t j fs x)
    (k : ∀ a' w' G', G.le G' → EnvR G' N a' (putE d (.fldA t j 0) E) → Holds w' G' T' Ls → wpFrom P ops Q (i + 1) a' w') : wpFrom P ops Q i a w := by
  unfold boxE at hb
  split at hb
  · rename_i o ho
    split at hb
    · rename_i e' x0 hg hop
      split at hb
      · rename_i y0 hy
        split at hb
        · rename_i z hz
          simp only [Option.some.injEq, Prod.mk.injEq] at hb
          obtain ⟨rfl, rfl, rfl⟩ := hb
          have hv := coeK_ok hz (opnd_ok (CurR_start hE) (by simp) hy)
          refine wpFrom_value ho (goes_ok (CurR_start hE) hg) (v := .pointer (some ⟨w.heap.size, 0, none⟩)) (w' := w.alloc (.cells (a.eval x0).cells e')) ?_
            (k _ _ _ (Gh.le_new hH _) ((hE.mono (Gh.le_new hH (.obj t j))).putO hd ⟨w.heap.size, Gh.set_same _ _ _, rfl⟩) (hH.newObj hT e' (ObjR_same hs (Kr_mono (Gh.le_new hH _) (VR_cells hv)))))
          simp only [execOp, hop]
          exact run_val (by simp [Instr.box, newVar, newRow])
        · simp at hb
      · simp at hb
    · simp at hb
  · simp at hb

/-- A value becomes an object of one field. -/
theorem stepNew1 (K : Kd) (y : K.den) {t j : Nat} {e : TypeId} {d : Option Nat} {i : Nat} (hE : EnvR G N a E) (hH : Holds w G T Ls) (hb : boxE ops E i K = some (y, e, d)) (hd : dstOK d N = true)
    (hT : AddT T T' t j [.p K] (y, ()))
    (k : ∀ a' w' G', G.le G' → EnvR G' N a' (putE d (.fldA t j 0) E) → Holds w' G' T' Ls → wpFrom P ops Q (i + 1) a' w') : wpFrom P ops Q i a w := by
  unfold boxE at hb
  split at hb
  · rename_i o ho
    split at hb
    · rename_i e' x0 hg hop
      split at hb
      · rename_i y0 hy
        split at hb
        · rename_i z hz
          simp only [Option.some.injEq, Prod.mk.injEq] at hb
          obtain ⟨rfl, rfl, rfl⟩ := hb
          have hv := coeK_ok hz (opnd_ok (CurR_start hE) (by simp) hy)
          refine wpFrom_value ho (goes_ok (CurR_start hE) hg) (v := .pointer (some ⟨w.heap.size, 0, none⟩)) (w' := w.alloc (.cells (a.eval x0).cells e')) ?_
            (k _ _ _ (Gh.le_new hH _) ((hE.mono (Gh.le_new hH (.obj t j))).putO hd ⟨w.heap.size, Gh.set_same _ _ _, rfl⟩) (hH.newObj hT e' ⟨_, [], (List.append_nil _).symm, Kr_mono (Gh.le_new hH _) (VR_cells hv), rfl⟩))
          simp only [execOp, hop]
          exact run_val (by simp [Instr.box, newVar, newRow])
        · simp at hb
      · simp at hb
    · simp at hb
  · simp at hb

/-- A zero value becomes an object of one field. -/
theorem stepAlloc1 (K : Kd) {t j : Nat} {e : TypeId} {d : Option Nat} {i : Nat} (hE : EnvR G N a E) (hH : Holds w G T Ls) (hb : allocE P ops E i K = some (e, d)) (hd : dstOK d N = true)
    (hT : AddT T T' t j [.p K] (zeroK K, ()))
    (k : ∀ a' w' G', G.le G' → EnvR G' N a' (putE d (.fldA t j 0) E) → Holds w' G' T' Ls → wpFrom P ops Q (i + 1) a' w') : wpFrom P ops Q i a w := by
  unfold allocE at hb
  split at hb
  · rename_i o ho
    split at hb
    · rename_i e' hg hop
      split at hb
      · rename_i z hz
        split at hb
        · rename_i hzero
          simp only [Option.some.injEq, Prod.mk.injEq] at hb
          obtain ⟨rfl, rfl⟩ := hb
          have hv := isZero_ok (G := G) hzero
          refine wpFrom_value ho (goes_ok (CurR_start hE) hg) (v := .pointer (some ⟨w.heap.size, 0, none⟩)) (w' := w.alloc (.cells z.cells e')) ?_
            (k _ _ _ (Gh.le_new hH _) ((hE.mono (Gh.le_new hH (.obj t j))).putO hd ⟨w.heap.size, Gh.set_same _ _ _, rfl⟩) (hH.newObj hT e' ⟨_, [], (List.append_nil _).symm, Kr_mono (Gh.le_new hH _) (VR_cells hv), rfl⟩))
          have hz' : (zeroValue e').run P w = .ok z w := by
            unfold zeroOf at hz
            split at hz
            · rename_i it hit; simp [zeroValue, typeInfo, hit, hz]
            · simp at hz
          simp only [execOp, hop]
          exact run_val (by simp [Instr.alloc, newVar, newRow, hz'])
        · simp at hb
      · simp at hb
    · simp at hb
  · simp at hb
end
end Go.Proofs.Ytlfemhkabjafeaa.M
