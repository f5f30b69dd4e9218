/- Own library, part 11: regions whose order is open: each operation does what it does whenever it comes up. -/
import Derived.Test.YtlfemhkabjafeaaB10
import Derived.RegionTactic
set_option linter.unusedVariables false
set_option linter.unusedSimpArgs false
namespace Go.Proofs.Ytlfemhkabjafeaa.M

def depsL : List Edge → List Nat
  | [] => []
  | e :: r => (match Region.binds .any e with
    | true => e.on :: depsL r
    | false => depsL r)

def bitsOf (acc : List Nat) : List Nat → Nat
  | [] => 0
  | e :: r => Nat.lor (Nat.lor (2 ^ e) (acc.getD e 0)) (bitsOf acc r)

/-- Of each operation, the set of those that come before it in any order, as a number's bits. -/
def ancL : List Oper → List Nat → List Nat
  | [], acc => acc
  | o :: r, acc => ancL r (acc ++ [bitsOf acc (depsL o.after.toList)])

def downL : List Oper → Nat → Bool
  | [], _ => true
  | o :: r, i => (depsL o.after.toList).all (fun e => Nat.blt e i) && downL r (i + 1)

def allI (f : Nat → Bool) : Nat → Bool
  | 0 => true
  | n + 1 => allI f n && f n

def AllI (f : Nat → Prop) : Nat → Prop
  | 0 => True
  | n + 1 => AllI f n ∧ f n

theorem AllI_get {f : Nat → Prop} : ∀ {n i : Nat}, AllI f n → i < n → f i
  | n + 1, i, ⟨h1, h2⟩, hi => by
    rcases Nat.lt_or_ge i n with h | h
    · exact AllI_get h1 h
    · obtain rfl : i = n := by omega
      exact h2

theorem allI_get {f : Nat → Bool} : ∀ {n i : Nat}, allI f n = true → i < n → f i = true
  | n + 1, i, h, hi => by
    simp only [allI, Bool.and_eq_true] at h
    rcases Nat.lt_or_ge i n with h' | h'
    · exact allI_get h.1 h'
    · obtain rfl : i = n := by omega
      exact h.2

theorem one {F : Nat → Prop} {a : Nat} (h : F a) : ∀ k, a ≤ k → k ≤ a → F k := fun k h1 h2 => by
  obtain rfl : k = a := by omega
  exact h
theorem two {F : Nat → Prop} {a : Nat} (h : F a) (h' : F (a + 1)) : ∀ k, a ≤ k → k ≤ a + 1 → F k := fun k h1 h2 => by
  rcases Nat.lt_or_ge a k with h3 | h3
  · obtain rfl : k = a + 1 := by omega
    exact h'
  · obtain rfl : k = a := by omega
    exact h
theorem anyk {F : Nat → Prop} {a b : Nat} (h : ∀ k, F k) : ∀ k, a ≤ k → k ≤ b → F k := fun k _ _ => h k

section
variable {P : Program} {w : World} {G : Gh} {T T' : Tabs} {Ls Ls' : List LS} {a : Act} {N : Nat} {E : Env} {ops : Array Oper} {Q : Exit → Act → World → Prop}

/-- The slot that the i-th operation writes. -/
def dstOf (ops : Array Oper) (i : Nat) : Option Nat := (ops[i]?).bind (·.dst)

/-- Which earlier operation gave slot s to the i-th? -/
def fromDep (ops : Array Oper) (s : Nat) : List Nat → Option Nat
  | [] => none
  | e :: r => (match dstOf ops e with
    | some d => (match Nat.beq d s with
      | true => some e
      | false => fromDep ops s r)
    | none => fromDep ops s r)

def slotsOf (ops : Array Oper) (o : Oper) : List Nat :=
  (o.op.operands.toList.filterMap fun x => match x with | .tmp t => some t | _ => none) ++ (match o.guard with
    | some (j, _) => (match dstOf ops j with | some d => [d] | none => [])
    | none => [])

def envAt (ops : Array Oper) (E : Env) (D : List En) (o : Oper) : List Nat → Env
  | [] => []
  | s :: r => (match fromDep ops s (depsL o.after.toList) with
    | some e => (match D[e]? with
      | some x => (s, x) :: envAt ops E D o r
      | none => envAt ops E D o r)
    | none => (match lk E s with
      | some x => (s, x) :: envAt ops E D o r
      | none => envAt ops E D o r))

/-- What is known of the slots that the i-th operation looks at. -/
def envI (ops : Array Oper) (E : Env) (D : List En) (i : Nat) : Env :=
  match ops[i]? with
  | some o => envAt ops E D o (slotsOf ops o)
  | none => []

/-- The old value of a slot that the i-th operation looks at is not overwritten before it. -/
def oldOK (ops : Array Oper) (anc : List Nat) (m i : Nat) : Bool :=
  match ops[i]? with
  | some o => (slotsOf ops o).all fun s => (match fromDep ops s (depsL o.after.toList) with
    | some e => Nat.blt e m && allI (fun j => Nat.beq j e || (match dstOf ops j with
      | some d => !(Nat.beq d s)
      | none => true)) m
    | none => allI (fun j => (match dstOf ops j with
      | some d => !(Nat.beq d s) || Nat.testBit (anc.getD j 0) i
      | none => true)) m)
  | none => false

def cntL (loud : List Nat) (l : Nat → Bool) : Nat := (loud.filter l).length

def loudOK (anc : List Nat) : List Nat → Bool
  | [] => true
  | [_] => true
  | a :: b :: r => Nat.testBit (anc.getD b 0) a && loudOK anc (b :: r)

def rngI (anc : List Nat) (loud : List Nat) (i : Nat) (r : Nat × Nat) : Bool :=
  Nat.beq r.1 (loud.filter fun l => Nat.testBit (anc.getD i 0) l).length && Nat.beq r.2 (loud.filter fun l => !(Nat.testBit (anc.getD l 0) i) && !(Nat.beq l i)).length

def dstDiff (ops : Array Oper) (N m : Nat) : Bool :=
  allI (fun i => (match dstOf ops i with
    | some d => Nat.blt d N && allI (fun j => Nat.beq i j || (match dstOf ops j with
      | some d' => !(Nat.beq d d')
      | none => true)) m
    | none => true)) m

/-- All that is asked of the region's shape. m: how many operations stand in the part whose order is open. -/
def ascL : List Nat → Bool
  | [] => true
  | [_] => true
  | a :: b :: r => Nat.blt a b && ascL (b :: r)

def parOK (ops : Array Oper) (N m : Nat) (loud : List Nat) (rng : List (Nat × Nat)) : Bool :=
  let anc := ancL ops.toList []
  downL ops.toList 0 && (Nat.ble m ops.size && (dstDiff ops N m && (allI (fun i => oldOK ops anc m i) m && (ascL loud && (loud.all (fun l => Nat.blt l m) && (allI (fun i => (match rng[i]? with | some r => rngI anc loud i r | none => false)) m && allI (fun j => Nat.ble m j == false || Nat.beq (anc.getD j 0) (2 ^ j - 1)) ops.size))))))

/-- The i-th operation, come up when k of the loud ones have been carried out. -/
def OpOb (P : Program) (ops : Array Oper) (Q : Exit → Act → World → Prop) (N : Nat) (E : Env) (D : List En) (loud : List Nat) (G0 : Gh) (Tk : Nat → Tabs) (Lk : Nat → List LS) (i k : Nat) : Prop :=
  ∀ (a : Act) (w : World) (G : Gh), G0.le G → EnvR G N a (envI ops E D i) → Holds w G (Tk k) (Lk k) →
    wpOp P ops Q i (fun a' w' => ∃ v G', a' = a.put (dstOf ops i) v ∧ G.le G' ∧ EnR G' (D.getD i .undef) v ∧ Holds w' G' (Tk (if loud.contains i then k + 1 else k)) (Lk (if loud.contains i then k + 1 else k))) a w

/-! ### Soundness -/
theorem ancL_len : ∀ (l : List Oper) (acc : List Nat), (ancL l acc).length = acc.length + l.length
  | [], acc => by simp [ancL]
  | o :: r, acc => by rw [ancL, ancL_len r]; simp; omega

theorem ancL_pre : ∀ (l : List Oper) (acc : List Nat) (i : Nat), i < acc.length → (ancL l acc)[i]? = acc[i]?
  | [], acc, i, h => rfl
  | o :: r, acc, i, h => by
    rw [ancL, ancL_pre r _ i (by simp; omega), List.getElem?_append_left h]

theorem ancL_at : ∀ (l : List Oper) (acc : List Nat) (j : Nat) (o : Oper), l[j]? = some o → (ancL l acc)[acc.length + j]? = some (bitsOf ((ancL l acc).take (acc.length + j)) (depsL o.after.toList))
  | [], acc, j, o, h => by simp at h
  | o' :: r, acc, 0, o, h => by
    simp at h; subst h
    rw [ancL]
    have h1 := ancL_pre r (acc ++ [bitsOf acc (depsL o'.after.toList)]) acc.length (by simp)
    simp only [Nat.add_zero]
    rw [h1]
    simp only [List.getElem?_append_right (Nat.le_refl _), Nat.sub_self, List.getElem?_cons_zero]
    congr 2
    apply List.ext_getElem?
    intro n
    rw [List.getElem?_take]
    split
    · rename_i hn
      rw [ancL_pre r _ n (by simp; omega), List.getElem?_append_left hn]
    · rename_i hn
      rw [List.getElem?_eq_none (by omega)]
  | o' :: r, acc, j + 1, o, h => by
    rw [ancL]
    have := ancL_at r (acc ++ [bitsOf acc (depsL o'.after.toList)]) j o (by simpa using h)
    rw [show acc.length + (j + 1) = (acc ++ [bitsOf acc (depsL o'.after.toList)]).length + j by simp; omega]
    exact this

theorem bitsOf_bit {acc : List Nat} : ∀ {l : List Nat} {i : Nat}, (bitsOf acc l).testBit i = true → ∃ e ∈ l, i = e ∨ (acc.getD e 0).testBit i = true
  | [], i, h => by simp [bitsOf] at h
  | e :: r, i, h => by
    simp only [bitsOf] at h
    have h' : ((2 ^ e ||| acc.getD e 0) ||| bitsOf acc r).testBit i = true := h
    rw [Nat.testBit_or, Nat.testBit_or, Bool.or_eq_true, Bool.or_eq_true, Nat.testBit_two_pow] at h'
    rcases h' with (h1 | h1) | h1
    · exact ⟨e, List.mem_cons_self, .inl (by simpa using (of_decide_eq_true h1).symm)⟩
    · exact ⟨e, List.mem_cons_self, .inr h1⟩
    · obtain ⟨e', h2, h3⟩ := bitsOf_bit h1
      exact ⟨e', List.mem_cons_of_mem _ h2, h3⟩

theorem depsL_mem {l : List Edge} {e : Nat} : e ∈ depsL l ↔ ∃ x ∈ l, Region.binds .any x = true ∧ x.on = e := by
  induction l with
  | nil => simp [depsL]
  | cons x r ih =>
    simp only [depsL]
    cases hb : Region.binds .any x with
    | true =>
      rw [List.mem_cons, ih]
      constructor
      · rintro (rfl | ⟨y, h1, h2, h3⟩)
        · exact ⟨x, List.mem_cons_self, hb, rfl⟩
        · exact ⟨y, List.mem_cons_of_mem _ h1, h2, h3⟩
      · rintro ⟨y, h1, h2, h3⟩
        rcases List.mem_cons.1 h1 with rfl | h1
        · exact .inl h3.symm
        · exact .inr ⟨y, h1, h2, h3⟩
    | false =>
      rw [ih]
      constructor
      · rintro ⟨y, h1, h2, h3⟩
        exact ⟨y, List.mem_cons_of_mem _ h1, h2, h3⟩
      · rintro ⟨y, h1, h2, h3⟩
        rcases List.mem_cons.1 h1 with rfl | h1
        · rw [hb] at h2; simp at h2
        · exact ⟨y, h1, h2, h3⟩

def Closed (ops : Array Oper) (S : Nat → Prop) : Prop := ∀ j o, S j → ops[j]? = some o → ∀ e ∈ depsL o.after.toList, S e

theorem downL_get : ∀ {l : List Oper} {i j : Nat} {o : Oper}, downL l i = true → l[j]? = some o → ∀ e ∈ depsL o.after.toList, e < i + j
  | [], i, j, o, h, hj => by simp at hj
  | o' :: r, i, 0, o, h, hj => by
    simp at hj; subst hj
    simp only [downL, Bool.and_eq_true, List.all_eq_true] at h
    intro e he
    exact Nat.le_of_ble_eq_true (h.1 e he)
  | o' :: r, i, j + 1, o, h, hj => by
    simp only [downL, Bool.and_eq_true] at h
    intro e he
    have := downL_get h.2 (j := j) (o := o) (by simpa using hj) e he
    omega

/-- A bit among the ancestors: that operation has come up before. -/
theorem anc_ready {S : Nat → Prop} (hd : downL ops.toList 0 = true) (hc : Closed ops S) : ∀ (j i : Nat) (o : Oper), ops[j]? = some o → (∀ e ∈ depsL o.after.toList, S e) → ((ancL ops.toList []).getD j 0).testBit i = true → S i := by
  intro j
  induction j using Nat.strongRecOn with
  | _ j ih =>
    intro i o ho hr hb
    have ho' : ops.toList[j]? = some o := by simpa using ho
    have ha := ancL_at ops.toList [] j o ho'
    simp only [List.length_nil, Nat.zero_add] at ha
    rw [List.getD_eq_getElem?_getD, ha] at hb
    simp only [Option.getD_some] at hb
    obtain ⟨e, he, h1⟩ := bitsOf_bit hb
    have hlt : e < j := by have := downL_get hd ho' e he; omega
    rcases h1 with rfl | h1
    · exact hr _ he
    · have he2 : ((ancL ops.toList []).getD e 0).testBit i = true := by
        rw [List.getD_eq_getElem?_getD, List.getElem?_take] at h1
        rw [if_pos hlt] at h1
        rwa [List.getD_eq_getElem?_getD]
      have hS := hr e he
      have hle : e < ops.size := by
        have := (Array.getElem?_eq_some_iff.1 ho).1; omega
      exact ih e hlt i _ (Array.getElem?_eq_getElem hle) (hc e _ hS (Array.getElem?_eq_getElem hle)) he2

theorem anc_listed {S : Nat → Prop} (hd : downL ops.toList 0 = true) (hc : Closed ops S) {j i : Nat} (hj : S j) (hb : ((ancL ops.toList []).getD j 0).testBit i = true) : S i := by
  cases ho : ops[j]? with
  | none =>
    exfalso
    have : (ancL ops.toList [])[j]? = none := by
      rw [List.getElem?_eq_none_iff, ancL_len]
      rw [Array.getElem?_eq_none_iff] at ho
      simpa using ho
    rw [List.getD_eq_getElem?_getD, this] at hb
    simp at hb
  | some o => exact anc_ready hd hc j i o ho (hc j o hj ho) hb

def Lst (listed : Array Bool) (i : Nat) : Prop := listed.getD i false = true

theorem ready_iff {listed : Array Bool} (hs : listed.size = ops.size) {i : Nat} : i ∈ Region.ready .any ops listed ↔ ∃ o, ops[i]? = some o ∧ ¬ Lst listed i ∧ ∀ e ∈ depsL o.after.toList, Lst listed e := by
  rw [mem_ready]
  constructor
  · rintro ⟨h1, o, h2, h3⟩
    refine ⟨o, h2, ?_, ?_⟩
    · have hi : i < listed.size := by rw [hs]; exact (Array.getElem?_eq_some_iff.1 h2).1
      unfold Lst
      simp only [Array.getD_eq_getD_getElem?, Array.getElem?_eq_getElem hi, Option.getD_some] at h1 ⊢
      rw [h1]; simp
    · intro e he
      obtain ⟨x, hx, hb, rfl⟩ := depsL_mem.1 he
      exact h3 x (by simpa using hx) hb
  · rintro ⟨o, h2, h1, h3⟩
    refine ⟨?_, o, h2, fun e he hb => h3 _ (depsL_mem.2 ⟨e, by simpa using he, hb, rfl⟩)⟩
    have hi : i < listed.size := by rw [hs]; exact (Array.getElem?_eq_some_iff.1 h2).1
    unfold Lst at h1
    simp only [Array.getD_eq_getD_getElem?, Array.getElem?_eq_getElem hi, Option.getD_some] at h1 ⊢
    simpa using h1

theorem Lst_set {listed : Array Bool} {i : Nat} (hi : i < listed.size) (j : Nat) : Lst (listed.setIfInBounds i true) j ↔ j = i ∨ Lst listed j := by
  unfold Lst
  simp only [Array.getD_eq_getD_getElem?, Array.getElem?_setIfInBounds]
  by_cases h : i = j
  · subst h; simp [hi]
  · simp [h, Ne.symm h]

/-- Behind the part whose order is open: one after the other. -/
theorem par_suffix (hd : downL ops.toList 0 = true) {m : Nat} (hsuf : ∀ j, m ≤ j → j < ops.size → (ancL ops.toList []).getD j 0 = 2 ^ j - 1) :
    ∀ (fuel j : Nat) (listed : Array Bool) (a : Act) (w : World), m ≤ j → listed.size = ops.size → fuel + j = ops.size → (∀ i, Lst listed i ↔ i < j) → wpFrom P ops Q j a w → wpAny P .any ops Q fuel listed a w
  | 0, j, listed, a, w, hm, hs, hf, hl, h => by
    refine ⟨?_, ?_⟩
    · rw [List.eq_nil_iff_forall_not_mem]
      intro i hi
      obtain ⟨o, h1, h2, _⟩ := (ready_iff hs).1 hi
      have := (Array.getElem?_eq_some_iff.1 h1).1
      exact h2 ((hl i).2 (by omega))
    · unfold wpFrom at h
      rw [List.drop_of_length_le (by simp; omega)] at h
      exact h
  | fuel + 1, j, listed, a, w, hm, hs, hf, hl, h => by
    have hj : j < ops.size := by omega
    have hoj := Array.getElem?_eq_getElem hj
    have hoj' : ops.toList[j]? = some ops[j] := by simp
    refine ⟨fun h0 => ?_, fun i hi => ?_⟩
    · exfalso
      have : j ∈ Region.ready .any ops listed := (ready_iff hs).2 ⟨ops[j], hoj, fun hc => by have := (hl j).1 hc; omega, fun e he => (hl e).2 (by have := downL_get hd hoj' e he; omega)⟩
      rw [h0] at this; exact List.not_mem_nil this
    · obtain ⟨o, h1, h2, h3⟩ := (ready_iff hs).1 hi
      have hilt := (Array.getElem?_eq_some_iff.1 h1).1
      have hge : j ≤ i := by
        rcases Nat.lt_or_ge i j with h | h
        · exact (h2 ((hl i).2 h)).elim
        · exact h
      have hc : Closed ops (Lst listed) := by
        intro j' o' hj' ho' e he
        have : e < j' := by have := downL_get hd (j := j') (o := o') (by simpa using ho') e he; omega
        exact (hl e).2 (by have := (hl j').1 hj'; omega)
      have hij : i = j := by
        rcases Nat.lt_or_ge j i with h | h
        · exfalso
          have hb : ((ancL ops.toList []).getD i 0).testBit j = true := by
            rw [hsuf i (by omega) hilt, Nat.testBit_two_pow_sub_one]; exact decide_eq_true h
          have := anc_ready hd hc i j o h1 h3 hb
          have := (hl j).1 this
          omega
        · omega
      subst hij
      have hw : wpOp P ops Q i (wpFrom P ops Q (i + 1)) a w := by
        rw [wpFrom_cons h1] at h
        unfold wpOp
        rw [h1]
        exact h
      refine wpOp_mono (fun a' w' h' => par_suffix hd hsuf fuel (i + 1) _ a' w' (by omega) (by simp [hs]) (by omega) (fun q => ?_) h') hw
      rw [Lst_set (by rw [hs]; exact hilt), hl q]
      omega

/-- What is known of the slots when the open part has been carried out. -/
def finE (ops : Array Oper) (D : List En) : Nat → Env
  | 0 => []
  | n + 1 => (match dstOf ops n with
    | some d => (d, D.getD n .undef) :: finE ops D n
    | none => finE ops D n)

/-- What holds when the operations of a set have come up. -/
structure ParInv (P : Program) (ops : Array Oper) (N m : Nat) (E : Env) (D : List En) (loud : List Nat) (G0 : Gh) (Tk : Nat → Tabs) (Lk : Nat → List LS) (S : Nat → Prop) [DecidablePred S] (a : Act) (w : World) (G : Gh) : Prop where
  le : G0.le G
  size : a.tmps.size = N
  defs : a.defers = []
  new : ∀ i d, i < m → S i → dstOf ops i = some d → EnR G (D.getD i .undef) (a.tmps.getD d Go.undef)
  old : ∀ s e, lk E s = some e → (∀ i, i < m → S i → dstOf ops i ≠ some s) → EnR G e (a.tmps.getD s Go.undef)
  holds : Holds w G (Tk (loud.filter fun l => decide (S l)).length) (Lk (loud.filter fun l => decide (S l)).length)

instance (listed : Array Bool) : DecidablePred (Lst listed) := fun i => by unfold Lst; exact inferInstance

theorem fromDep_some {s : Nat} : ∀ {l : List Nat} {e : Nat}, fromDep ops s l = some e → e ∈ l ∧ dstOf ops e = some s
  | [], e, h => by simp [fromDep] at h
  | x :: r, e, h => by
    unfold fromDep at h
    split at h
    · rename_i d hd
      split at h
      · rename_i hb
        simp only [Option.some.injEq] at h; subst h
        exact ⟨List.mem_cons_self, by rw [hd, Nat.eq_of_beq_eq_true hb]⟩
      · obtain ⟨h1, h2⟩ := fromDep_some h
        exact ⟨List.mem_cons_of_mem _ h1, h2⟩
    · obtain ⟨h1, h2⟩ := fromDep_some h
      exact ⟨List.mem_cons_of_mem _ h1, h2⟩

theorem envAt_ok {D : List En} {o : Oper} (R : En → Value → Prop) {f : Nat → Value} :
    ∀ {l : List Nat} (h1 : ∀ s e x, s ∈ l → fromDep ops s (depsL o.after.toList) = some e → D[e]? = some x → R x (f s))
    (h2 : ∀ s x, s ∈ l → fromDep ops s (depsL o.after.toList) = none → lk E s = some x → R x (f s)) (s : Nat) (e : En), lk (envAt ops E D o l) s = some e → R e (f s)
  | [], _, _, s, e, h => by simp [envAt, lk] at h
  | t :: r, h1, h2, s, e, h => by
    have ih := envAt_ok (l := r) R (fun s e x hs => h1 s e x (List.mem_cons_of_mem _ hs)) (fun s x hs => h2 s x (List.mem_cons_of_mem _ hs)) s e
    unfold envAt at h
    split at h
    · rename_i q hq
      split at h
      · rename_i x hx
        rw [lk_cons] at h
        by_cases ht : t = s
        · subst ht; simp at h; subst h; exact h1 _ _ _ List.mem_cons_self hq hx
        · rw [if_neg ht] at h; exact ih h
      · exact ih h
    · rename_i hq
      split at h
      · rename_i x hx
        rw [lk_cons] at h
        by_cases ht : t = s
        · subst ht; simp at h; subst h; exact h2 _ _ List.mem_cons_self hq hx
        · rw [if_neg ht] at h; exact ih h
      · exact ih h

theorem lk_mem : ∀ {F : Env} {s : Nat} {e : En}, lk F s = some e → (s, e) ∈ F
  | [], s, e, h => by simp [lk] at h
  | (t, x) :: r, s, e, h => by
    rw [lk_cons] at h
    by_cases ht : t = s
    · subst ht; simp at h; subst h; exact List.mem_cons_self
    · rw [if_neg ht] at h; exact List.mem_cons_of_mem _ (lk_mem h)

theorem envAt_slot {D : List En} {o : Oper} : ∀ {l : List Nat} {s : Nat} {e : En}, lk (envAt ops E D o l) s = some e → s ∈ l
  | [], s, e, h => by simp [envAt, lk] at h
  | t :: r, s, e, h => by
    unfold envAt at h
    split at h <;> split at h
    all_goals first
      | exact List.mem_cons_of_mem _ (envAt_slot h)
      | (rw [lk_cons] at h
         by_cases ht : t = s
         · subst ht; exact List.mem_cons_self
         · rw [if_neg ht] at h; exact List.mem_cons_of_mem _ (envAt_slot h))

theorem filter_le {l : List Nat} {p q : Nat → Bool} (h : ∀ x ∈ l, p x = true → q x = true) : (l.filter p).length ≤ (l.filter q).length := by
  induction l with
  | nil => simp
  | cons x l ih =>
    have ih' := ih (fun y hy => h y (List.mem_cons_of_mem _ hy))
    have hx := h x List.mem_cons_self
    cases hp : p x with
    | true => rw [List.filter_cons_of_pos hp, List.filter_cons_of_pos (hx hp)]; simp; exact ih'
    | false =>
      rw [List.filter_cons_of_neg (by simp [hp])]
      cases hq : q x with
      | true => rw [List.filter_cons_of_pos hq]; simp; omega
      | false => rw [List.filter_cons_of_neg (by simp [hq])]; exact ih'

theorem ascL_lt : ∀ {l : List Nat} {a : Nat}, ascL (a :: l) = true → ∀ x ∈ l, a < x
  | [], a, _, x, hx => by simp at hx
  | b :: r, a, h, x, hx => by
    simp only [ascL, Bool.and_eq_true] at h
    have h1 : a < b := Nat.le_of_ble_eq_true h.1
    rcases List.mem_cons.1 hx with rfl | hx
    · exact h1
    · have := ascL_lt h.2 x hx; omega

theorem ascL_tail {l : List Nat} {a : Nat} (h : ascL (a :: l) = true) : ascL l = true := by
  cases l with
  | nil => rfl
  | cons b r => simp only [ascL, Bool.and_eq_true] at h; exact h.2

theorem filter_add {p q : Nat → Bool} {i : Nat} (hi : p i = false) (hq : ∀ x, q x = true ↔ x = i ∨ p x = true) : ∀ {l : List Nat}, ascL l = true → (l.filter q).length = if l.contains i then (l.filter p).length + 1 else (l.filter p).length
  | [], _ => by simp
  | x :: l, h => by
    have ih := filter_add hi hq (ascL_tail h)
    by_cases hx : x = i
    · subst hx
      have hni : l.contains x = false := by
        cases hc : l.contains x with
        | false => rfl
        | true =>
          have := ascL_lt h x (by simpa using hc)
          omega
      rw [hni] at ih
      rw [List.filter_cons_of_pos ((hq x).2 (.inl rfl)), List.filter_cons_of_neg (by simp [hi])]
      simp at ih ⊢
      exact ih
    · have hc : (x :: l).contains i = l.contains i := by
        simp [List.contains_cons, Ne.symm hx]
      rw [hc]
      cases hp : p x with
      | true =>
        rw [List.filter_cons_of_pos ((hq x).2 (.inr hp)), List.filter_cons_of_pos hp]
        simp only [List.length_cons, ih]
        split <;> rfl
      | false =>
        have hqx : q x = false := by
          cases hqq : q x with
          | false => rfl
          | true => rcases (hq x).1 hqq with h1 | h1
                    · exact (hx h1).elim
                    · rw [hp] at h1; simp at h1
        rw [List.filter_cons_of_neg (by simp [hqx]), List.filter_cons_of_neg (by simp [hp])]
        exact ih

theorem ascL_range' : ∀ (n a : Nat), ascL (List.range' a n) = true
  | 0, a => rfl
  | 1, a => rfl
  | n + 2, a => by
    have := ascL_range' (n + 1) (a + 1)
    simp only [List.range'_succ] at this ⊢
    simp only [ascL, Bool.and_eq_true]
    exact ⟨Nat.ble_eq_true_of_le (by omega), this⟩

theorem finE_ok {D : List En} : ∀ {n : Nat} {s : Nat} {e : En}, lk (finE ops D n) s = some e → ∃ i, i < n ∧ dstOf ops i = some s ∧ e = D.getD i .undef
  | 0, s, e, h => by simp [finE, lk] at h
  | n + 1, s, e, h => by
    unfold finE at h
    split at h
    · rename_i d hd
      rw [lk_cons] at h
      by_cases hs : d = s
      · subst hs; simp at h; exact ⟨n, by omega, hd, h.symm⟩
      · rw [if_neg hs] at h
        obtain ⟨i, h1, h2, h3⟩ := finE_ok h
        exact ⟨i, by omega, h2, h3⟩
    · obtain ⟨i, h1, h2, h3⟩ := finE_ok h
      exact ⟨i, by omega, h2, h3⟩

theorem finE_none {D : List En} : ∀ {n : Nat} {s : Nat}, lk (finE ops D n) s = none → ∀ i, i < n → dstOf ops i ≠ some s
  | 0, s, h, i, hi => by omega
  | n + 1, s, h, i, hi => by
    unfold finE at h
    split at h
    · rename_i d hd
      rw [lk_cons] at h
      by_cases hs : d = s
      · rw [if_pos hs] at h; simp at h
      · rw [if_neg hs] at h
        rcases Nat.lt_or_ge i n with h1 | h1
        · exact finE_none h i h1
        · obtain rfl : i = n := by omega
          rw [hd]; simpa using hs
    · rename_i hd
      rcases Nat.lt_or_ge i n with h1 | h1
      · exact finE_none h i h1
      · obtain rfl : i = n := by omega
        rw [hd]; simp

theorem least_unlisted {S : Nat → Prop} [DecidablePred S] : ∀ (n : Nat), ¬ S n → ∃ j, j ≤ n ∧ ¬ S j ∧ ∀ i, i < j → S i := by
  intro n
  induction n using Nat.strongRecOn with
  | _ n ih =>
    intro hn
    by_cases h : ∀ i, i < n → S i
    · exact ⟨n, Nat.le_refl _, hn, h⟩
    · obtain ⟨i, hi⟩ := Classical.not_forall.1 h
      obtain ⟨h1, h2⟩ := Classical.not_imp.1 hi
      obtain ⟨j, h3, h4, h5⟩ := ih i h1 h2
      exact ⟨j, by omega, h4, h5⟩

/-- A region whose order is open: the first m operations in any order, the others one after the other. -/
theorem region_par {id : Nat} (m : Nat) (loud : List Nat) (rng : List (Nat × Nat)) (D : List En) (Tk : Nat → Tabs) (Lk : Nat → List LS) (hm : P.follows .mixedOrders = true) (hok : parOK ops N m loud rng = true)
    (hE : EnvR G N a E) (hH : Holds w G (Tk 0) (Lk 0))
    (ob : AllI (fun i => ∀ k, (rng.getD i (0, 0)).1 ≤ k → k ≤ (rng.getD i (0, 0)).2 → OpOb P ops Q N E D loud G Tk Lk i k) m)
    (fin : ∀ a' w' G', G.le G' → EnvR G' N a' (finE ops D m ++ E) → Holds w' G' (Tk loud.length) (Lk loud.length) → wpFrom P ops Q m a' w') : (Code.region id ops true).wp P Q a w := by
  unfold parOK at hok
  simp only [Bool.and_eq_true] at hok
  obtain ⟨hd, hmle, hdd, hold, hasc, hlm, hrng, hsuf⟩ := hok
  have hmn : m ≤ ops.size := Nat.le_of_ble_eq_true hmle
  have hsuf' : ∀ j, m ≤ j → j < ops.size → (ancL ops.toList []).getD j 0 = 2 ^ j - 1 := by
    intro j h1 h2
    have := allI_get hsuf h2
    simp only [Bool.or_eq_true, beq_iff_eq] at this
    rcases this with h3 | h3
    · have h4 := Nat.ble_eq_true_of_le h1; rw [h3] at h4; simp at h4
    · exact Nat.eq_of_beq_eq_true h3
  refine wp_region_any hm ?_
  have key : ∀ (fuel : Nat) (listed : Array Bool) (a : Act) (w : World) (G' : Gh), listed.size = ops.size → Closed ops (Lst listed) → (∀ j, m ≤ j → ¬ Lst listed j) →
      fuel + ((List.range m).filter fun i => decide (Lst listed i)).length = ops.size → ParInv P ops N m E D loud G Tk Lk (Lst listed) a w G' → wpAny P .any ops Q fuel listed a w := by
    intro fuel
    induction fuel with
    | zero =>
      intro listed a w G' hs hc hge hf hI
      have hle : ((List.range m).filter fun i => decide (Lst listed i)).length ≤ m := by
        have := List.length_filter_le (fun i => decide (Lst listed i)) (List.range m); simpa using this
      have hall : ∀ i, i < m → Lst listed i := by
        intro i hi
        have heq : ((List.range m).filter fun i => decide (Lst listed i)).length = (List.range m).length := by simp; omega
        have := (List.length_filter_eq_length_iff.1 heq) i (by simpa using hi)
        simpa using this
      refine par_suffix hd hsuf' 0 m listed a w (Nat.le_refl _) hs (by omega) (fun i => ⟨fun h => by
        rcases Nat.lt_or_ge i m with h' | h'
        · exact h'
        · exact (hge i h' h).elim, hall i⟩) ?_
      exact fin a w G' hI.le (par_env hI hall) (par_holds hI hall hlm)
    | succ fuel ih =>
      intro listed a w G' hs hc hge hf hI
      by_cases hall : ∀ i, i < m → Lst listed i
      · have heq : ((List.range m).filter fun i => decide (Lst listed i)).length = m := by
          rw [List.filter_eq_self.2 (fun x hx => decide_eq_true (hall x (by simpa using hx)))]; simp
        refine par_suffix hd hsuf' (fuel + 1) m listed a w (Nat.le_refl _) hs (by omega) (fun i => ⟨fun h => by
          rcases Nat.lt_or_ge i m with h' | h'
          · exact h'
          · exact (hge i h' h).elim, hall i⟩) ?_
        exact fin a w G' hI.le (par_env hI hall) (par_holds hI hall hlm)
      · obtain ⟨i0, hi0⟩ := Classical.not_forall.1 hall
        obtain ⟨hi1, hi2⟩ := Classical.not_imp.1 hi0
        refine ⟨fun h0 => ?_, fun i hi => ?_⟩
        · exfalso
          obtain ⟨j, h3, h4, h5⟩ := least_unlisted i0 hi2
          have hj : j < ops.size := by omega
          have hoj : ops[j]? = some ops[j] := Array.getElem?_eq_getElem hj
          have : j ∈ Region.ready .any ops listed := (ready_iff hs).2 ⟨ops[j], hoj, h4, fun e he => h5 e (by
            have := downL_get hd (j := j) (o := ops[j]) (by simp) e he; omega)⟩
          rw [h0] at this; exact List.not_mem_nil this
        · obtain ⟨o, h1, h2, h3⟩ := (ready_iff hs).1 hi
          have hin := (Array.getElem?_eq_some_iff.1 h1).1
          have him : i < m := by
            rcases Nat.lt_or_ge i m with h' | h'
            · exact h'
            · exfalso
              refine hi2 (anc_ready hd hc i i0 o h1 h3 ?_)
              rw [hsuf' i h' hin, Nat.testBit_two_pow_sub_one]
              exact decide_eq_true (by omega)
          have hdi : dstOf ops i = o.dst := by unfold dstOf; rw [h1]; rfl
          -- the range
          have hr := allI_get hrng him
          have hobi := AllI_get ob him
          cases hri : rng[i]? with
          | none => rw [hri] at hr; simp at hr
          | some r =>
            rw [hri] at hr
            simp only [rngI, Bool.and_eq_true] at hr
            obtain ⟨hr1, hr2⟩ := hr
            have hr1 := Nat.eq_of_beq_eq_true hr1
            have hr2 := Nat.eq_of_beq_eq_true hr2
            have hget : rng.getD i (0, 0) = r := by rw [List.getD_eq_getElem?_getD, hri]; rfl
            rw [hget] at hobi
            have hlo : r.1 ≤ (loud.filter fun l => decide (Lst listed l)).length := by
              rw [hr1]
              exact filter_le (fun x _ hx => by simpa using anc_ready hd hc i x o h1 h3 hx)
            have hhi : (loud.filter fun l => decide (Lst listed l)).length ≤ r.2 := by
              rw [hr2]
              refine filter_le (fun x _ hx => ?_)
              have hx' : Lst listed x := by simpa using hx
              simp only [Bool.and_eq_true, Bool.not_eq_true']
              refine ⟨?_, ?_⟩
              · cases hb : ((ancL ops.toList []).getD x 0).testBit i with
                | false => rfl
                | true => exact (h2 (anc_listed hd hc hx' hb)).elim
              · cases hb : Nat.beq x i with
                | false => rfl
                | true => rw [Nat.eq_of_beq_eq_true hb] at hx'; exact (h2 hx').elim
            have hob := hobi _ hlo hhi
            have hoo := allI_get hold him
            unfold oldOK at hoo
            rw [h1] at hoo
            simp only [List.all_eq_true] at hoo
            have hEi : EnvR G' N a (envI ops E D i) := by
              refine ⟨hI.size, hI.defs, fun s e hse => ?_⟩
              unfold envI at hse
              rw [h1] at hse
              refine envAt_ok (ops := ops) (E := E) (D := D) (o := o) (EnR G') (f := fun s => a.tmps.getD s Go.undef) (l := slotsOf ops o) ?_ ?_ s e hse
              · intro s e x hsl hf hx
                have hoo' := hoo s hsl
                rw [hf] at hoo'
                simp only [Bool.and_eq_true] at hoo'
                obtain ⟨q1, q2⟩ := fromDep_some hf
                have := hI.new e s (Nat.le_of_ble_eq_true hoo'.1) (h3 e q1) q2
                rwa [List.getD_eq_getElem?_getD, hx] at this
              · intro s x hsl hf hx
                have hoo' := hoo s hsl
                rw [hf] at hoo'
                simp only at hoo'
                refine hI.old s x hx (fun j hj hlj hdj => ?_)
                have := allI_get hoo' hj
                rw [hdj] at this
                simp only [Bool.or_eq_true, Bool.not_eq_true'] at this
                rcases this with h7 | h7
                · have := Nat.beq_refl s; rw [h7] at this; simp at this
                · exact h2 (anc_listed hd hc hlj h7)
            refine wpOp_mono (fun a' w' h' => ?_) (hob a w G' hI.le hEi hI.holds)
            obtain ⟨v, G2, rfl, hle, hv, hh⟩ := h'
            have hil : i < listed.size := by rw [hs]; exact hin
            have hset := Lst_set hil
            have hni : decide (Lst listed i) = false := decide_eq_false h2
            have hq : ∀ x, decide (Lst (listed.setIfInBounds i true) x) = true ↔ x = i ∨ decide (Lst listed x) = true := fun x => by
              rw [decide_eq_true_iff, decide_eq_true_iff]; exact hset x
            refine ih _ _ w' G2 (by simp [hs]) ?_ ?_ ?_ ?_
            · intro j o' hj ho' e he
              rcases (hset j).1 hj with rfl | hj
              · rw [h1] at ho'
                simp only [Option.some.injEq] at ho'; subst ho'
                exact (hset e).2 (.inr (h3 e he))
              · exact (hset e).2 (.inr (hc j o' hj ho' e he))
            · intro j hj hl
              rcases (hset j).1 hl with rfl | hl
              · omega
              · exact hge j hj hl
            · have := filter_add hni hq (l := List.range m) (by rw [List.range_eq_range']; exact ascL_range' m 0)
              rw [this, if_pos (by simpa using him)]
              omega
            · have hdst : ∀ d, dstOf ops i = some d → d < a.tmps.size := by
                intro d hdd'
                have := allI_get hdd him
                rw [hdd'] at this
                simp only [Bool.and_eq_true] at this
                rw [hI.size]
                exact Nat.le_of_ble_eq_true this.1
              have hsame : ∀ s, dstOf ops i ≠ some s → (a.put (dstOf ops i) v).tmps.getD s Go.undef = a.tmps.getD s Go.undef := by
                intro s hs'
                cases hdo : dstOf ops i with
                | none => rfl
                | some d =>
                  rw [getD_put (hdst d hdo), if_neg]
                  intro he; subst he; exact hs' hdo
              refine ⟨Gh.le_trans hI.le hle, ?_, ?_, ?_, ?_, ?_⟩
              · cases hdo : dstOf ops i with
                | none => exact hI.size
                | some d => simp [Act.put, hI.size]
              · cases hdo : dstOf ops i with
                | none => exact hI.defs
                | some d => simp [Act.put, hI.defs]
              · intro j d hj hl hjd
                by_cases hij : j = i
                · subst hij
                  rw [hjd, getD_put (hdst d hjd), if_pos rfl]
                  exact hv
                · have hl' : Lst listed j := ((hset j).1 hl).resolve_left hij
                  rw [hsame d (fun he => by
                    have := allI_get hdd him
                    rw [he] at this
                    simp only [Bool.and_eq_true] at this
                    have := allI_get this.2 hj
                    rw [hjd] at this
                    simp only [Bool.or_eq_true, Bool.not_eq_true'] at this
                    rcases this with h7 | h7
                    · exact hij (Nat.eq_of_beq_eq_true h7).symm
                    · have := Nat.beq_refl d; rw [h7] at this; simp at this)]
                  exact EnR_mono hle (hI.new j d hj hl' hjd)
              · intro s e hs' hno
                rw [hsame s (fun he => hno i him ((hset i).2 (.inl rfl)) he)]
                exact EnR_mono hle (hI.old s e hs' (fun j hj hl => hno j hj ((hset j).2 (.inr hl))))
              · have := filter_add hni hq (l := loud) hasc
                rw [this]
                exact hh
  have h0 : ∀ i, ¬ Lst (Array.replicate ops.size false) i := by
    intro i hi
    unfold Lst at hi
    simp only [Array.getD_eq_getD_getElem?, Array.getElem?_replicate] at hi
    split at hi <;> simp at hi
  refine key ops.size _ a _ G (by simp) (fun j o hj => (h0 j hj).elim) (fun j _ => h0 j) ?_ ⟨Gh.le_refl G, hE.1, hE.2.1, fun i d _ hi => (h0 i hi).elim, fun s e hs _ => hE.2.2 s e hs, ?_⟩
  · rw [List.filter_eq_nil_iff.2 (fun x _ => by simpa using h0 x)]; simp
  · rw [List.filter_eq_nil_iff.2 (fun x _ => by simpa using h0 x)]
    exact hH.drawn _
  where
  par_env {listed : Array Bool} {a : Act} {w : World} {G' : Gh} {Tk : Nat → Tabs} {Lk : Nat → List LS} {m : Nat} {D : List En} {loud : List Nat} (hI : ParInv P ops N m E D loud G Tk Lk (Lst listed) a w G') (hall : ∀ i, i < m → Lst listed i) : EnvR G' N a (finE ops D m ++ E) := by
    refine ⟨hI.size, hI.defs, fun s e hs => ?_⟩
    rw [lk_append] at hs
    cases hf : lk (finE ops D m) s with
    | some e' =>
      rw [hf] at hs; simp at hs; subst hs
      obtain ⟨i, h1, h2, rfl⟩ := finE_ok hf
      exact hI.new i s h1 (hall i h1) h2
    | none =>
      rw [hf] at hs; simp at hs
      exact hI.old s e hs (fun i hi _ => finE_none hf i hi)
  par_holds {listed : Array Bool} {a : Act} {w : World} {G' : Gh} {Tk : Nat → Tabs} {Lk : Nat → List LS} {m : Nat} {D : List En} {loud : List Nat} (hI : ParInv P ops N m E D loud G Tk Lk (Lst listed) a w G') (hall : ∀ i, i < m → Lst listed i) (hlm : loud.all (fun l => Nat.blt l m) = true) : Holds w G' (Tk loud.length) (Lk loud.length) := by
    have := hI.holds
    rwa [List.filter_eq_self.2 (fun x hx => by
      simp only [List.all_eq_true] at hlm
      simpa using hall x (Nat.le_of_ble_eq_true (hlm x hx)))] at this

/-! ### What each operation does -/
variable {D : List En} {loud : List Nat} {G0 : Gh} {Tk : Nat → Tabs} {Lk : Nat → List LS}

def rdE (P : Program) (T : Tabs) (Ls : List LS) (ops : Array Oper) (E : Env) (i : Nat) (A : List Adv) : Option (En × List Prop × List Adv) :=
  match ops[i]? with
  | some o => (match segOpO P T Ls ops (look E []) o A with
    | some (e, O, A') => (match rsv (look E []) e with
      | some e' => some (e', O, A')
      | none => none)
    | none => none)
  | none => none

/-- One that only reads. -/
theorem obR {i k : Nat} (A : List Adv) {Os : List Prop} (hO : AllP Os) (hl : loud.contains i = false) (h : rdE P (Tk k) (Lk k) ops (envI ops E D i) i A = some (D.getD i .undef, Os, [])) : OpOb P ops Q N E D loud G0 Tk Lk i k := by
  intro a w G hle hE hH
  unfold rdE at h
  split at h
  · rename_i o ho
    split at h
    · rename_i e O A' he
      split at h
      · rename_i e' hr
        simp only [Option.some.injEq, Prod.mk.injEq] at h
        obtain ⟨rfl, rfl, rfl⟩ := h
        obtain ⟨k1, k2⟩ := segOpO_ok (P := P) hH (CurR_start hE) he hO
        have hd : dstOf ops i = o.dst := by unfold dstOf; rw [ho]; rfl
        unfold wpOp
        rw [ho]
        simp only [hl, Bool.false_eq_true, if_false]
        split
        · rename_i hw
          obtain ⟨v, hr', hv⟩ := k1 hw
          refine .inl ?_
          unfold Oper.wp
          rw [hr']
          exact ⟨v, G, by rw [hd], Gh.le_refl G, rsv_ok (CurR_start hE) hv hr, hH⟩
        · rename_i hw
          exact ⟨Go.undef, G, by rw [hd], Gh.le_refl G, rsv_ok (CurR_start hE) (k2 (by simpa using hw)) hr, hH⟩
      · simp at h
    · simp at h
  · simp at h

/-- One that calls a named function. -/
theorem obC {i k f : Nat} {As : List En} {R : En} {d : Option Nat} (hS : Spec P f As (Tk k) R (Tk (k + 1))) (hLk : Lk (k + 1) = Lk k) (hN : NoHole (Lk k)) (hl : loud.contains i = true)
    (hc : callE ops (envI ops E D i) i As = some (f, As, d)) (hR : D.getD i .undef = R) (hout : True) : OpOb P ops Q N E D loud G0 Tk Lk i k := by
  intro a w G hle hE hH
  unfold callE at hc
  split at hc
  · rename_i o ho
    split at hc
    · rename_i hgo
      have hw := goes_ok (CurR_start hE) hgo
      split at hc
      · rename_i c hop
        split at hc
        · rename_i f' hcal
          split at hc
          · rename_i es hes
            simp only [Option.some.injEq, Prod.mk.injEq] at hc
            obtain ⟨rfl, rfl, rfl⟩ := hc
            have hd : dstOf ops i = o.dst := by unfold dstOf; rw [ho]; rfl
            unfold wpOp
            rw [ho]
            simp only [hl, if_true]
            rw [if_pos hw]
            refine .inl ?_
            unfold Oper.wp
            have hr : (execOp a.eval o).run P w = .ok (.enter f' (c.args.toList.map a.eval).toArray) w := by
              have hargs : (c.args.map a.eval) = (c.args.toList.map a.eval).toArray := by
                apply Array.ext'; simp
              simp [execOp, hop, resolve, hcal, Act.eval, Deferred.ofValue, invoke, callFunc_enter hS.ok]
              exact hargs
            rw [hr]
            refine (hS.run _ w G _ (enOps_ok (CurR_start hE) hes) hH hN).mono ?_
            intro e w' hp
            cases e with
            | returned v =>
              obtain ⟨G', hle', hv, hH'⟩ := hp
              exact ⟨v, G', by rw [hd], hle', by rw [hR]; exact hv, by rw [hLk]; exact hH'⟩
            | panicked c => exact hp.elim
            | outgrown => exact False.elim hp
          · simp at hc
        · simp at hc
      · simp at hc
    · simp at hc
  · simp at hc

end
end Go.Proofs.Ytlfemhkabjafeaa.M
