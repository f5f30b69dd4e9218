/- Own texts, laid together: B11 B12 B13 B14 B15 B16 B17 B18 B19 B20 B21 R0 P0 R1 W1 V0 XD P1. -/
import Derived.Below
import Derived.Carry
import Derived.ChangeOld
import Derived.OpenShut
import Derived.ProofKit
import Derived.RegionTactic
import Derived.ShutString
import Derived.SizedLaws
import Derived.Sort.OwnSorted
import Derived.Test.YtlfemhkabjafeaaProg
import Derived.WalkKit
import Derived.Test.YtlfemhkabjafeaaZ1
/- Own library, part 11: regions whose order is open: each operation does what it does whenever it comes up. -/
set_option linter.unusedVariables false
set_option linter.unusedSimpArgs false
namespace Go.Proofs.Ytlfemhkabjafeaa.M

def depsL : List Edge → List Nat
  | [] => []
  | e :: r => (match Region.binds .any e with
    | true => e.on :: depsL r
    | false => depsL r)

def bitsOf (acc : List Nat) : List Nat → Nat
  | [] => 0
  | e :: r => Nat.lor (Nat.lor (2 ^ e) (acc.getD e 0)) (bitsOf acc r)

/-- Of each operation, the set of those that come before it in any order, as a number's bits. -/
def ancL : List Oper → List Nat → List Nat
  | [], acc => acc
  | o :: r, acc => ancL r (acc ++ [bitsOf acc (depsL o.after.toList)])

def downL : List Oper → Nat → Bool
  | [], _ => true
  | o :: r, i => (depsL o.after.toList).all (fun e => Nat.blt e i) && downL r (i + 1)

def allI (f : Nat → Bool) : Nat → Bool
  | 0 => true
  | n + 1 => allI f n && f n

def AllI (f : Nat → Prop) : Nat → Prop
  | 0 => True
  | n + 1 => AllI f n ∧ f n

theorem AllI_get {f : Nat → Prop} : ∀ {n i : Nat}, AllI f n → i < n → f i
  | n + 1, i, ⟨h1, h2⟩, hi => by
    rcases Nat.lt_or_ge i n with h | h
    · exact AllI_get h1 h
    · obtain rfl : i = n := by omega
      exact h2

theorem allI_get {f : Nat → Bool} : ∀ {n i : Nat}, allI f n = true → i < n → f i = true
  | n + 1, i, h, hi => by
    simp only [allI, Bool.and_eq_true] at h
    rcases Nat.lt_or_ge i n with h' | h'
    · exact allI_get h.1 h'
    · obtain rfl : i = n := by omega
      exact h.2

theorem one {F : Nat → Prop} {a : Nat} (h : F a) : ∀ k, a ≤ k → k ≤ a → F k := fun k h1 h2 => by
  obtain rfl : k = a := by omega
  exact h
theorem two {F : Nat → Prop} {a : Nat} (h : F a) (h' : F (a + 1)) : ∀ k, a ≤ k → k ≤ a + 1 → F k := fun k h1 h2 => by
  rcases Nat.lt_or_ge a k with h3 | h3
  · obtain rfl : k = a + 1 := by omega
    exact h'
  · obtain rfl : k = a := by omega
    exact h
theorem anyk {F : Nat → Prop} {a b : Nat} (h : ∀ k, F k) : ∀ k, a ≤ k → k ≤ b → F k := fun k _ _ => h k

section
variable {P : Program} {w : World} {G : Gh} {T T' : Tabs} {Ls Ls' : List LS} {a : Act} {N : Nat} {E : Env} {ops : Array Oper} {Q : Exit → Act → World → Prop}

/-- The slot that the i-th operation writes. -/
def dstOf (ops : Array Oper) (i : Nat) : Option Nat := (ops[i]?).bind (·.dst)

/-- Which earlier operation gave slot s to the i-th? -/
def fromDep (ops : Array Oper) (s : Nat) : List Nat → Option Nat
  | [] => none
  | e :: r => (match dstOf ops e with
    | some d => (match Nat.beq d s with
      | true => some e
      | false => fromDep ops s r)
    | none => fromDep ops s r)

def slotsOf (ops : Array Oper) (o : Oper) : List Nat :=
  (o.op.operands.toList.filterMap fun x => match x with | .tmp t => some t | _ => none) ++ (match o.guard with
    | some (j, _) => (match dstOf ops j with | some d => [d] | none => [])
    | none => [])

def envAt (ops : Array Oper) (E : Env) (D : List En) (o : Oper) : List Nat → Env
  | [] => []
  | s :: r => (match fromDep ops s (depsL o.after.toList) with
    | some e => (match D[e]? with
      | some x => (s, x) :: envAt ops E D o r
      | none => envAt ops E D o r)
    | none => (match lk E s with
      | some x => (s, x) :: envAt ops E D o r
      | none => envAt ops E D o r))

/-- What is known of the slots that the i-th operation looks at. -/
def envI (ops : Array Oper) (E : Env) (D : List En) (i : Nat) : Env :=
  match ops[i]? with
  | some o => envAt ops E D o (slotsOf ops o)
  | none => []

/-- The old value of a slot that the i-th operation looks at is not overwritten before it. -/
def oldOK (ops : Array Oper) (anc : List Nat) (m i : Nat) : Bool :=
  match ops[i]? with
  | some o => (slotsOf ops o).all fun s => (match fromDep ops s (depsL o.after.toList) with
    | some e => Nat.blt e m && allI (fun j => Nat.beq j e || (match dstOf ops j with
      | some d => !(Nat.beq d s)
      | none => true)) m
    | none => allI (fun j => (match dstOf ops j with
      | some d => !(Nat.beq d s) || Nat.testBit (anc.getD j 0) i
      | none => true)) m)
  | none => false

def cntL (loud : List Nat) (l : Nat → Bool) : Nat := (loud.filter l).length

def loudOK (anc : List Nat) : List Nat → Bool
  | [] => true
  | [_] => true
  | a :: b :: r => Nat.testBit (anc.getD b 0) a && loudOK anc (b :: r)

def rngI (anc : List Nat) (loud : List Nat) (i : Nat) (r : Nat × Nat) : Bool :=
  Nat.beq r.1 (loud.filter fun l => Nat.testBit (anc.getD i 0) l).length && Nat.beq r.2 (loud.filter fun l => !(Nat.testBit (anc.getD l 0) i) && !(Nat.beq l i)).length

def dstDiff (ops : Array Oper) (N m : Nat) : Bool :=
  allI (fun i => (match dstOf ops i with
    | some d => Nat.blt d N && allI (fun j => Nat.beq i j || (match dstOf ops j with
      | some d' => !(Nat.beq d d')
      | none => true)) m
    | none => true)) m

/-- All that is asked of the region's shape. m: how many operations stand in the part whose order is open. -/
def ascL : List Nat → Bool
  | [] => true
  | [_] => true
  | a :: b :: r => Nat.blt a b && ascL (b :: r)

def parOK (ops : Array Oper) (N m : Nat) (loud : List Nat) (rng : List (Nat × Nat)) : Bool :=
  let anc := ancL ops.toList []
  downL ops.toList 0 && (Nat.ble m ops.size && (dstDiff ops N m && (allI (fun i => oldOK ops anc m i) m && (ascL loud && (loud.all (fun l => Nat.blt l m) && (allI (fun i => (match rng[i]? with | some r => rngI anc loud i r | none => false)) m && allI (fun j => Nat.ble m j == false || Nat.beq (anc.getD j 0) (2 ^ j - 1)) ops.size))))))

/-- The i-th operation, come up when k of the loud ones have been carried out. -/
def OpOb (P : Program) (ops : Array Oper) (Q : Exit → Act → World → Prop) (N : Nat) (E : Env) (D : List En) (loud : List Nat) (G0 : Gh) (Tk : Nat → Tabs) (Lk : Nat → List LS) (i k : Nat) : Prop :=
  ∀ (a : Act) (w : World) (G : Gh), G0.le G → EnvR G N a (envI ops E D i) → Holds w G (Tk k) (Lk k) →
    wpOp P ops Q i (fun a' w' => ∃ v G', a' = a.put (dstOf ops i) v ∧ G.le G' ∧ EnR G' (D.getD i .undef) v ∧ Holds w' G' (Tk (if loud.contains i then k + 1 else k)) (Lk (if loud.contains i then k + 1 else k))) a w

/-! ### Soundness -/
theorem ancL_len : ∀ (l : List Oper) (acc : List Nat), (ancL l acc).length = acc.length + l.length
  | [], acc => by simp [ancL]
  | o :: r, acc => by rw [ancL, ancL_len r]; simp; omega

theorem ancL_pre : ∀ (l : List Oper) (acc : List Nat) (i : Nat), i < acc.length → (ancL l acc)[i]? = acc[i]?
  | [], acc, i, h => rfl
  | o :: r, acc, i, h => by
    rw [ancL, ancL_pre r _ i (by simp; omega), List.getElem?_append_left h]

theorem ancL_at : ∀ (l : List Oper) (acc : List Nat) (j : Nat) (o : Oper), l[j]? = some o → (ancL l acc)[acc.length + j]? = some (bitsOf ((ancL l acc).take (acc.length + j)) (depsL o.after.toList))
  | [], acc, j, o, h => by simp at h
  | o' :: r, acc, 0, o, h => by
    simp at h; subst h
    rw [ancL]
    have h1 := ancL_pre r (acc ++ [bitsOf acc (depsL o'.after.toList)]) acc.length (by simp)
    simp only [Nat.add_zero]
    rw [h1]
    simp only [List.getElem?_append_right (Nat.le_refl _), Nat.sub_self, List.getElem?_cons_zero]
    congr 2
    apply List.ext_getElem?
    intro n
    rw [List.getElem?_take]
    split
    · rename_i hn
      rw [ancL_pre r _ n (by simp; omega), List.getElem?_append_left hn]
    · rename_i hn
      rw [List.getElem?_eq_none (by omega)]
  | o' :: r, acc, j + 1, o, h => by
    rw [ancL]
    have := ancL_at r (acc ++ [bitsOf acc (depsL o'.after.toList)]) j o (by simpa using h)
    rw [show acc.length + (j + 1) = (acc ++ [bitsOf acc (depsL o'.after.toList)]).length + j by simp; omega]
    exact this

theorem bitsOf_bit {acc : List Nat} : ∀ {l : List Nat} {i : Nat}, (bitsOf acc l).testBit i = true → ∃ e ∈ l, i = e ∨ (acc.getD e 0).testBit i = true
  | [], i, h => by simp [bitsOf] at h
  | e :: r, i, h => by
    simp only [bitsOf] at h
    have h' : ((2 ^ e ||| acc.getD e 0) ||| bitsOf acc r).testBit i = true := h
    rw [Nat.testBit_or, Nat.testBit_or, Bool.or_eq_true, Bool.or_eq_true, Nat.testBit_two_pow] at h'
    rcases h' with (h1 | h1) | h1
    · exact ⟨e, List.mem_cons_self, .inl (by simpa using (of_decide_eq_true h1).symm)⟩
    · exact ⟨e, List.mem_cons_self, .inr h1⟩
    · obtain ⟨e', h2, h3⟩ := bitsOf_bit h1
      exact ⟨e', List.mem_cons_of_mem _ h2, h3⟩

theorem depsL_mem {l : List Edge} {e : Nat} : e ∈ depsL l ↔ ∃ x ∈ l, Region.binds .any x = true ∧ x.on = e := by
  induction l with
  | nil => simp [depsL]
  | cons x r ih =>
    simp only [depsL]
    cases hb : Region.binds .any x with
    | true =>
      rw [List.mem_cons, ih]
      constructor
      · rintro (rfl | ⟨y, h1, h2, h3⟩)
        · exact ⟨x, List.mem_cons_self, hb, rfl⟩
        · exact ⟨y, List.mem_cons_of_mem _ h1, h2, h3⟩
      · rintro ⟨y, h1, h2, h3⟩
        rcases List.mem_cons.1 h1 with rfl | h1
        · exact .inl h3.symm
        · exact .inr ⟨y, h1, h2, h3⟩
    | false =>
      rw [ih]
      constructor
      · rintro ⟨y, h1, h2, h3⟩
        exact ⟨y, List.mem_cons_of_mem _ h1, h2, h3⟩
      · rintro ⟨y, h1, h2, h3⟩
        rcases List.mem_cons.1 h1 with rfl | h1
        · rw [hb] at h2; simp at h2
        · exact ⟨y, h1, h2, h3⟩

def Closed (ops : Array Oper) (S : Nat → Prop) : Prop := ∀ j o, S j → ops[j]? = some o → ∀ e ∈ depsL o.after.toList, S e

theorem downL_get : ∀ {l : List Oper} {i j : Nat} {o : Oper}, downL l i = true → l[j]? = some o → ∀ e ∈ depsL o.after.toList, e < i + j
  | [], i, j, o, h, hj => by simp at hj
  | o' :: r, i, 0, o, h, hj => by
    simp at hj; subst hj
    simp only [downL, Bool.and_eq_true, List.all_eq_true] at h
    intro e he
    exact Nat.le_of_ble_eq_true (h.1 e he)
  | o' :: r, i, j + 1, o, h, hj => by
    simp only [downL, Bool.and_eq_true] at h
    intro e he
    have := downL_get h.2 (j := j) (o := o) (by simpa using hj) e he
    omega

/-- A bit among the ancestors: that operation has come up before. -/
theorem anc_ready {S : Nat → Prop} (hd : downL ops.toList 0 = true) (hc : Closed ops S) : ∀ (j i : Nat) (o : Oper), ops[j]? = some o → (∀ e ∈ depsL o.after.toList, S e) → ((ancL ops.toList []).getD j 0).testBit i = true → S i := by
  intro j
  induction j using Nat.strongRecOn with
  | _ j ih =>
    intro i o ho hr hb
    have ho' : ops.toList[j]? = some o := by simpa using ho
    have ha := ancL_at ops.toList [] j o ho'
    simp only [List.length_nil, Nat.zero_add] at ha
    rw [List.getD_eq_getElem?_getD, ha] at hb
    simp only [Option.getD_some] at hb
    obtain ⟨e, he, h1⟩ := bitsOf_bit hb
    have hlt : e < j := by have := downL_get hd ho' e he; omega
    rcases h1 with rfl | h1
    · exact hr _ he
    · have he2 : ((ancL ops.toList []).getD e 0).testBit i = true := by
        rw [List.getD_eq_getElem?_getD, List.getElem?_take] at h1
        rw [if_pos hlt] at h1
        rwa [List.getD_eq_getElem?_getD]
      have hS := hr e he
      have hle : e < ops.size := by
        have := (Array.getElem?_eq_some_iff.1 ho).1; omega
      exact ih e hlt i _ (Array.getElem?_eq_getElem hle) (hc e _ hS (Array.getElem?_eq_getElem hle)) he2

theorem anc_listed {S : Nat → Prop} (hd : downL ops.toList 0 = true) (hc : Closed ops S) {j i : Nat} (hj : S j) (hb : ((ancL ops.toList []).getD j 0).testBit i = true) : S i := by
  cases ho : ops[j]? with
  | none =>
    exfalso
    have : (ancL ops.toList [])[j]? = none := by
      rw [List.getElem?_eq_none_iff, ancL_len]
      rw [Array.getElem?_eq_none_iff] at ho
      simpa using ho
    rw [List.getD_eq_getElem?_getD, this] at hb
    simp at hb
  | some o => exact anc_ready hd hc j i o ho (hc j o hj ho) hb

def Lst (listed : Array Bool) (i : Nat) : Prop := listed.getD i false = true

theorem ready_iff {listed : Array Bool} (hs : listed.size = ops.size) {i : Nat} : i ∈ Region.ready .any ops listed ↔ ∃ o, ops[i]? = some o ∧ ¬ Lst listed i ∧ ∀ e ∈ depsL o.after.toList, Lst listed e := by
  rw [mem_ready]
  constructor
  · rintro ⟨h1, o, h2, h3⟩
    refine ⟨o, h2, ?_, ?_⟩
    · have hi : i < listed.size := by rw [hs]; exact (Array.getElem?_eq_some_iff.1 h2).1
      unfold Lst
      simp only [Array.getD_eq_getD_getElem?, Array.getElem?_eq_getElem hi, Option.getD_some] at h1 ⊢
      rw [h1]; simp
    · intro e he
      obtain ⟨x, hx, hb, rfl⟩ := depsL_mem.1 he
      exact h3 x (by simpa using hx) hb
  · rintro ⟨o, h2, h1, h3⟩
    refine ⟨?_, o, h2, fun e he hb => h3 _ (depsL_mem.2 ⟨e, by simpa using he, hb, rfl⟩)⟩
    have hi : i < listed.size := by rw [hs]; exact (Array.getElem?_eq_some_iff.1 h2).1
    unfold Lst at h1
    simp only [Array.getD_eq_getD_getElem?, Array.getElem?_eq_getElem hi, Option.getD_some] at h1 ⊢
    simpa using h1

theorem Lst_set {listed : Array Bool} {i : Nat} (hi : i < listed.size) (j : Nat) : Lst (listed.setIfInBounds i true) j ↔ j = i ∨ Lst listed j := by
  unfold Lst
  simp only [Array.getD_eq_getD_getElem?, Array.getElem?_setIfInBounds]
  by_cases h : i = j
  · subst h; simp [hi]
  · simp [h, Ne.symm h]

/-- Behind the part whose order is open: one after the other. -/
theorem par_suffix (hd : downL ops.toList 0 = true) {m : Nat} (hsuf : ∀ j, m ≤ j → j < ops.size → (ancL ops.toList []).getD j 0 = 2 ^ j - 1) :
    ∀ (fuel j : Nat) (listed : Array Bool) (a : Act) (w : World), m ≤ j → listed.size = ops.size → fuel + j = ops.size → (∀ i, Lst listed i ↔ i < j) → wpFrom P ops Q j a w → wpAny P .any ops Q fuel listed a w
  | 0, j, listed, a, w, hm, hs, hf, hl, h => by
    refine ⟨?_, ?_⟩
    · rw [List.eq_nil_iff_forall_not_mem]
      intro i hi
      obtain ⟨o, h1, h2, _⟩ := (ready_iff hs).1 hi
      have := (Array.getElem?_eq_some_iff.1 h1).1
      exact h2 ((hl i).2 (by omega))
    · unfold wpFrom at h
      rw [List.drop_of_length_le (by simp; omega)] at h
      exact h
  | fuel + 1, j, listed, a, w, hm, hs, hf, hl, h => by
    have hj : j < ops.size := by omega
    have hoj := Array.getElem?_eq_getElem hj
    have hoj' : ops.toList[j]? = some ops[j] := by simp
    refine ⟨fun h0 => ?_, fun i hi => ?_⟩
    · exfalso
      have : j ∈ Region.ready .any ops listed := (ready_iff hs).2 ⟨ops[j], hoj, fun hc => by have := (hl j).1 hc; omega, fun e he => (hl e).2 (by have := downL_get hd hoj' e he; omega)⟩
      rw [h0] at this; exact List.not_mem_nil this
    · obtain ⟨o, h1, h2, h3⟩ := (ready_iff hs).1 hi
      have hilt := (Array.getElem?_eq_some_iff.1 h1).1
      have hge : j ≤ i := by
        rcases Nat.lt_or_ge i j with h | h
        · exact (h2 ((hl i).2 h)).elim
        · exact h
      have hc : Closed ops (Lst listed) := by
        intro j' o' hj' ho' e he
        have : e < j' := by have := downL_get hd (j := j') (o := o') (by simpa using ho') e he; omega
        exact (hl e).2 (by have := (hl j').1 hj'; omega)
      have hij : i = j := by
        rcases Nat.lt_or_ge j i with h | h
        · exfalso
          have hb : ((ancL ops.toList []).getD i 0).testBit j = true := by
            rw [hsuf i (by omega) hilt, Nat.testBit_two_pow_sub_one]; exact decide_eq_true h
          have := anc_ready hd hc i j o h1 h3 hb
          have := (hl j).1 this
          omega
        · omega
      subst hij
      have hw : wpOp P ops Q i (wpFrom P ops Q (i + 1)) a w := by
        rw [wpFrom_cons h1] at h
        unfold wpOp
        rw [h1]
        exact h
      refine wpOp_mono (fun a' w' h' => par_suffix hd hsuf fuel (i + 1) _ a' w' (by omega) (by simp [hs]) (by omega) (fun q => ?_) h') hw
      rw [Lst_set (by rw [hs]; exact hilt), hl q]
      omega

/-- What is known of the slots when the open part has been carried out. -/
def finE (ops : Array Oper) (D : List En) : Nat → Env
  | 0 => []
  | n + 1 => (match dstOf ops n with
    | some d => (d, D.getD n .undef) :: finE ops D n
    | none => finE ops D n)

/-- What holds when the operations of a set have come up. -/
structure ParInv (P : Program) (ops : Array Oper) (N m : Nat) (E : Env) (D : List En) (loud : List Nat) (G0 : Gh) (Tk : Nat → Tabs) (Lk : Nat → List LS) (S : Nat → Prop) [DecidablePred S] (a : Act) (w : World) (G : Gh) : Prop where
  le : G0.le G
  size : a.tmps.size = N
  defs : a.defers = []
  new : ∀ i d, i < m → S i → dstOf ops i = some d → EnR G (D.getD i .undef) (a.tmps.getD d Go.undef)
  old : ∀ s e, lk E s = some e → (∀ i, i < m → S i → dstOf ops i ≠ some s) → EnR G e (a.tmps.getD s Go.undef)
  holds : Holds w G (Tk (loud.filter fun l => decide (S l)).length) (Lk (loud.filter fun l => decide (S l)).length)

instance (listed : Array Bool) : DecidablePred (Lst listed) := fun i => by unfold Lst; exact inferInstance

theorem fromDep_some {s : Nat} : ∀ {l : List Nat} {e : Nat}, fromDep ops s l = some e → e ∈ l ∧ dstOf ops e = some s
  | [], e, h => by simp [fromDep] at h
  | x :: r, e, h => by
    unfold fromDep at h
    split at h
    · rename_i d hd
      split at h
      · rename_i hb
        simp only [Option.some.injEq] at h; subst h
        exact ⟨List.mem_cons_self, by rw [hd, Nat.eq_of_beq_eq_true hb]⟩
      · obtain ⟨h1, h2⟩ := fromDep_some h
        exact ⟨List.mem_cons_of_mem _ h1, h2⟩
    · obtain ⟨h1, h2⟩ := fromDep_some h
      exact ⟨List.mem_cons_of_mem _ h1, h2⟩

theorem envAt_ok {D : List En} {o : Oper} (R : En → Value → Prop) {f : Nat → Value} :
    ∀ {l : List Nat} (h1 : ∀ s e x, s ∈ l → fromDep ops s (depsL o.after.toList) = some e → D[e]? = some x → R x (f s))
    (h2 : ∀ s x, s ∈ l → fromDep ops s (depsL o.after.toList) = none → lk E s = some x → R x (f s)) (s : Nat) (e : En), lk (envAt ops E D o l) s = some e → R e (f s)
  | [], _, _, s, e, h => by simp [envAt, lk] at h
  | t :: r, h1, h2, s, e, h => by
    have ih := envAt_ok (l := r) R (fun s e x hs => h1 s e x (List.mem_cons_of_mem _ hs)) (fun s x hs => h2 s x (List.mem_cons_of_mem _ hs)) s e
    unfold envAt at h
    split at h
    · rename_i q hq
      split at h
      · rename_i x hx
        rw [lk_cons] at h
        by_cases ht : t = s
        · subst ht; simp at h; subst h; exact h1 _ _ _ List.mem_cons_self hq hx
        · rw [if_neg ht] at h; exact ih h
      · exact ih h
    · rename_i hq
      split at h
      · rename_i x hx
        rw [lk_cons] at h
        by_cases ht : t = s
        · subst ht; simp at h; subst h; exact h2 _ _ List.mem_cons_self hq hx
        · rw [if_neg ht] at h; exact ih h
      · exact ih h

theorem lk_mem : ∀ {F : Env} {s : Nat} {e : En}, lk F s = some e → (s, e) ∈ F
  | [], s, e, h => by simp [lk] at h
  | (t, x) :: r, s, e, h => by
    rw [lk_cons] at h
    by_cases ht : t = s
    · subst ht; simp at h; subst h; exact List.mem_cons_self
    · rw [if_neg ht] at h; exact List.mem_cons_of_mem _ (lk_mem h)

theorem envAt_slot {D : List En} {o : Oper} : ∀ {l : List Nat} {s : Nat} {e : En}, lk (envAt ops E D o l) s = some e → s ∈ l
  | [], s, e, h => by simp [envAt, lk] at h
  | t :: r, s, e, h => by
    unfold envAt at h
    split at h <;> split at h
    all_goals first
      | exact List.mem_cons_of_mem _ (envAt_slot h)
      | (rw [lk_cons] at h
         by_cases ht : t = s
         · subst ht; exact List.mem_cons_self
         · rw [if_neg ht] at h; exact List.mem_cons_of_mem _ (envAt_slot h))

theorem filter_le {l : List Nat} {p q : Nat → Bool} (h : ∀ x ∈ l, p x = true → q x = true) : (l.filter p).length ≤ (l.filter q).length := by
  induction l with
  | nil => simp
  | cons x l ih =>
    have ih' := ih (fun y hy => h y (List.mem_cons_of_mem _ hy))
    have hx := h x List.mem_cons_self
    cases hp : p x with
    | true => rw [List.filter_cons_of_pos hp, List.filter_cons_of_pos (hx hp)]; simp; exact ih'
    | false =>
      rw [List.filter_cons_of_neg (by simp [hp])]
      cases hq : q x with
      | true => rw [List.filter_cons_of_pos hq]; simp; omega
      | false => rw [List.filter_cons_of_neg (by simp [hq])]; exact ih'

theorem ascL_lt : ∀ {l : List Nat} {a : Nat}, ascL (a :: l) = true → ∀ x ∈ l, a < x
  | [], a, _, x, hx => by simp at hx
  | b :: r, a, h, x, hx => by
    simp only [ascL, Bool.and_eq_true] at h
    have h1 : a < b := Nat.le_of_ble_eq_true h.1
    rcases List.mem_cons.1 hx with rfl | hx
    · exact h1
    · have := ascL_lt h.2 x hx; omega

theorem ascL_tail {l : List Nat} {a : Nat} (h : ascL (a :: l) = true) : ascL l = true := by
  cases l with
  | nil => rfl
  | cons b r => simp only [ascL, Bool.and_eq_true] at h; exact h.2

theorem filter_add {p q : Nat → Bool} {i : Nat} (hi : p i = false) (hq : ∀ x, q x = true ↔ x = i ∨ p x = true) : ∀ {l : List Nat}, ascL l = true → (l.filter q).length = if l.contains i then (l.filter p).length + 1 else (l.filter p).length
  | [], _ => by simp
  | x :: l, h => by
    have ih := filter_add hi hq (ascL_tail h)
    by_cases hx : x = i
    · subst hx
      have hni : l.contains x = false := by
        cases hc : l.contains x with
        | false => rfl
        | true =>
          have := ascL_lt h x (by simpa using hc)
          omega
      rw [hni] at ih
      rw [List.filter_cons_of_pos ((hq x).2 (.inl rfl)), List.filter_cons_of_neg (by simp [hi])]
      simp at ih ⊢
      exact ih
    · have hc : (x :: l).contains i = l.contains i := by
        simp [List.contains_cons, Ne.symm hx]
      rw [hc]
      cases hp : p x with
      | true =>
        rw [List.filter_cons_of_pos ((hq x).2 (.inr hp)), List.filter_cons_of_pos hp]
        simp only [List.length_cons, ih]
        split <;> rfl
      | false =>
        have hqx : q x = false := by
          cases hqq : q x with
          | false => rfl
          | true => rcases (hq x).1 hqq with h1 | h1
                    · exact (hx h1).elim
                    · rw [hp] at h1; simp at h1
        rw [List.filter_cons_of_neg (by simp [hqx]), List.filter_cons_of_neg (by simp [hp])]
        exact ih

theorem ascL_range' : ∀ (n a : Nat), ascL (List.range' a n) = true
  | 0, a => rfl
  | 1, a => rfl
  | n + 2, a => by
    have := ascL_range' (n + 1) (a + 1)
    simp only [List.range'_succ] at this ⊢
    simp only [ascL, Bool.and_eq_true]
    exact ⟨Nat.ble_eq_true_of_le (by omega), this⟩

theorem finE_ok {D : List En} : ∀ {n : Nat} {s : Nat} {e : En}, lk (finE ops D n) s = some e → ∃ i, i < n ∧ dstOf ops i = some s ∧ e = D.getD i .undef
  | 0, s, e, h => by simp [finE, lk] at h
  | n + 1, s, e, h => by
    unfold finE at h
    split at h
    · rename_i d hd
      rw [lk_cons] at h
      by_cases hs : d = s
      · subst hs; simp at h; exact ⟨n, by omega, hd, h.symm⟩
      · rw [if_neg hs] at h
        obtain ⟨i, h1, h2, h3⟩ := finE_ok h
        exact ⟨i, by omega, h2, h3⟩
    · obtain ⟨i, h1, h2, h3⟩ := finE_ok h
      exact ⟨i, by omega, h2, h3⟩

theorem finE_none {D : List En} : ∀ {n : Nat} {s : Nat}, lk (finE ops D n) s = none → ∀ i, i < n → dstOf ops i ≠ some s
  | 0, s, h, i, hi => by omega
  | n + 1, s, h, i, hi => by
    unfold finE at h
    split at h
    · rename_i d hd
      rw [lk_cons] at h
      by_cases hs : d = s
      · rw [if_pos hs] at h; simp at h
      · rw [if_neg hs] at h
        rcases Nat.lt_or_ge i n with h1 | h1
        · exact finE_none h i h1
        · obtain rfl : i = n := by omega
          rw [hd]; simpa using hs
    · rename_i hd
      rcases Nat.lt_or_ge i n with h1 | h1
      · exact finE_none h i h1
      · obtain rfl : i = n := by omega
        rw [hd]; simp

theorem least_unlisted {S : Nat → Prop} [DecidablePred S] : ∀ (n : Nat), ¬ S n → ∃ j, j ≤ n ∧ ¬ S j ∧ ∀ i, i < j → S i := by
  intro n
  induction n using Nat.strongRecOn with
  | _ n ih =>
    intro hn
    by_cases h : ∀ i, i < n → S i
    · exact ⟨n, Nat.le_refl _, hn, h⟩
    · obtain ⟨i, hi⟩ := Classical.not_forall.1 h
      obtain ⟨h1, h2⟩ := Classical.not_imp.1 hi
      obtain ⟨j, h3, h4, h5⟩ := ih i h1 h2
      exact ⟨j, by omega, h4, h5⟩

/-- A region whose order is open: the first m operations in any order, the others one after the other. -/
theorem region_par {id : Nat} (m : Nat) (loud : List Nat) (rng : List (Nat × Nat)) (D : List En) (Tk : Nat → Tabs) (Lk : Nat → List LS) (hm : P.follows .mixedOrders = true) (hok : parOK ops N m loud rng = true)
    (hE : EnvR G N a E) (hH : Holds w G (Tk 0) (Lk 0))
    (ob : AllI (fun i => ∀ k, (rng.getD i (0, 0)).1 ≤ k → k ≤ (rng.getD i (0, 0)).2 → OpOb P ops Q N E D loud G Tk Lk i k) m)
    (fin : ∀ a' w' G', G.le G' → EnvR G' N a' (finE ops D m ++ E) → Holds w' G' (Tk loud.length) (Lk loud.length) → wpFrom P ops Q m a' w') : (Code.region id ops true).wp P Q a w := by
  unfold parOK at hok
  simp only [Bool.and_eq_true] at hok
  obtain ⟨hd, hmle, hdd, hold, hasc, hlm, hrng, hsuf⟩ := hok
  have hmn : m ≤ ops.size := Nat.le_of_ble_eq_true hmle
  have hsuf' : ∀ j, m ≤ j → j < ops.size → (ancL ops.toList []).getD j 0 = 2 ^ j - 1 := by
    intro j h1 h2
    have := allI_get hsuf h2
    simp only [Bool.or_eq_true, beq_iff_eq] at this
    rcases this with h3 | h3
    · have h4 := Nat.ble_eq_true_of_le h1; rw [h3] at h4; simp at h4
    · exact Nat.eq_of_beq_eq_true h3
  refine wp_region_any hm ?_
  have key : ∀ (fuel : Nat) (listed : Array Bool) (a : Act) (w : World) (G' : Gh), listed.size = ops.size → Closed ops (Lst listed) → (∀ j, m ≤ j → ¬ Lst listed j) →
      fuel + ((List.range m).filter fun i => decide (Lst listed i)).length = ops.size → ParInv P ops N m E D loud G Tk Lk (Lst listed) a w G' → wpAny P .any ops Q fuel listed a w := by
    intro fuel
    induction fuel with
    | zero =>
      intro listed a w G' hs hc hge hf hI
      have hle : ((List.range m).filter fun i => decide (Lst listed i)).length ≤ m := by
        have := List.length_filter_le (fun i => decide (Lst listed i)) (List.range m); simpa using this
      have hall : ∀ i, i < m → Lst listed i := by
        intro i hi
        have heq : ((List.range m).filter fun i => decide (Lst listed i)).length = (List.range m).length := by simp; omega
        have := (List.length_filter_eq_length_iff.1 heq) i (by simpa using hi)
        simpa using this
      refine par_suffix hd hsuf' 0 m listed a w (Nat.le_refl _) hs (by omega) (fun i => ⟨fun h => by
        rcases Nat.lt_or_ge i m with h' | h'
        · exact h'
        · exact (hge i h' h).elim, hall i⟩) ?_
      exact fin a w G' hI.le (par_env hI hall) (par_holds hI hall hlm)
    | succ fuel ih =>
      intro listed a w G' hs hc hge hf hI
      by_cases hall : ∀ i, i < m → Lst listed i
      · have heq : ((List.range m).filter fun i => decide (Lst listed i)).length = m := by
          rw [List.filter_eq_self.2 (fun x hx => decide_eq_true (hall x (by simpa using hx)))]; simp
        refine par_suffix hd hsuf' (fuel + 1) m listed a w (Nat.le_refl _) hs (by omega) (fun i => ⟨fun h => by
          rcases Nat.lt_or_ge i m with h' | h'
          · exact h'
          · exact (hge i h' h).elim, hall i⟩) ?_
        exact fin a w G' hI.le (par_env hI hall) (par_holds hI hall hlm)
      · obtain ⟨i0, hi0⟩ := Classical.not_forall.1 hall
        obtain ⟨hi1, hi2⟩ := Classical.not_imp.1 hi0
        refine ⟨fun h0 => ?_, fun i hi => ?_⟩
        · exfalso
          obtain ⟨j, h3, h4, h5⟩ := least_unlisted i0 hi2
          have hj : j < ops.size := by omega
          have hoj : ops[j]? = some ops[j] := Array.getElem?_eq_getElem hj
          have : j ∈ Region.ready .any ops listed := (ready_iff hs).2 ⟨ops[j], hoj, h4, fun e he => h5 e (by
            have := downL_get hd (j := j) (o := ops[j]) (by simp) e he; omega)⟩
          rw [h0] at this; exact List.not_mem_nil this
        · obtain ⟨o, h1, h2, h3⟩ := (ready_iff hs).1 hi
          have hin := (Array.getElem?_eq_some_iff.1 h1).1
          have him : i < m := by
            rcases Nat.lt_or_ge i m with h' | h'
            · exact h'
            · exfalso
              refine hi2 (anc_ready hd hc i i0 o h1 h3 ?_)
              rw [hsuf' i h' hin, Nat.testBit_two_pow_sub_one]
              exact decide_eq_true (by omega)
          have hdi : dstOf ops i = o.dst := by unfold dstOf; rw [h1]; rfl
          -- the range
          have hr := allI_get hrng him
          have hobi := AllI_get ob him
          cases hri : rng[i]? with
          | none => rw [hri] at hr; simp at hr
          | some r =>
            rw [hri] at hr
            simp only [rngI, Bool.and_eq_true] at hr
            obtain ⟨hr1, hr2⟩ := hr
            have hr1 := Nat.eq_of_beq_eq_true hr1
            have hr2 := Nat.eq_of_beq_eq_true hr2
            have hget : rng.getD i (0, 0) = r := by rw [List.getD_eq_getElem?_getD, hri]; rfl
            rw [hget] at hobi
            have hlo : r.1 ≤ (loud.filter fun l => decide (Lst listed l)).length := by
              rw [hr1]
              exact filter_le (fun x _ hx => by simpa using anc_ready hd hc i x o h1 h3 hx)
            have hhi : (loud.filter fun l => decide (Lst listed l)).length ≤ r.2 := by
              rw [hr2]
              refine filter_le (fun x _ hx => ?_)
              have hx' : Lst listed x := by simpa using hx
              simp only [Bool.and_eq_true, Bool.not_eq_true']
              refine ⟨?_, ?_⟩
              · cases hb : ((ancL ops.toList []).getD x 0).testBit i with
                | false => rfl
                | true => exact (h2 (anc_listed hd hc hx' hb)).elim
              · cases hb : Nat.beq x i with
                | false => rfl
                | true => rw [Nat.eq_of_beq_eq_true hb] at hx'; exact (h2 hx').elim
            have hob := hobi _ hlo hhi
            have hoo := allI_get hold him
            unfold oldOK at hoo
            rw [h1] at hoo
            simp only [List.all_eq_true] at hoo
            have hEi : EnvR G' N a (envI ops E D i) := by
              refine ⟨hI.size, hI.defs, fun s e hse => ?_⟩
              unfold envI at hse
              rw [h1] at hse
              refine envAt_ok (ops := ops) (E := E) (D := D) (o := o) (EnR G') (f := fun s => a.tmps.getD s Go.undef) (l := slotsOf ops o) ?_ ?_ s e hse
              · intro s e x hsl hf hx
                have hoo' := hoo s hsl
                rw [hf] at hoo'
                simp only [Bool.and_eq_true] at hoo'
                obtain ⟨q1, q2⟩ := fromDep_some hf
                have := hI.new e s (Nat.le_of_ble_eq_true hoo'.1) (h3 e q1) q2
                rwa [List.getD_eq_getElem?_getD, hx] at this
              · intro s x hsl hf hx
                have hoo' := hoo s hsl
                rw [hf] at hoo'
                simp only at hoo'
                refine hI.old s x hx (fun j hj hlj hdj => ?_)
                have := allI_get hoo' hj
                rw [hdj] at this
                simp only [Bool.or_eq_true, Bool.not_eq_true'] at this
                rcases this with h7 | h7
                · have := Nat.beq_refl s; rw [h7] at this; simp at this
                · exact h2 (anc_listed hd hc hlj h7)
            refine wpOp_mono (fun a' w' h' => ?_) (hob a w G' hI.le hEi hI.holds)
            obtain ⟨v, G2, rfl, hle, hv, hh⟩ := h'
            have hil : i < listed.size := by rw [hs]; exact hin
            have hset := Lst_set hil
            have hni : decide (Lst listed i) = false := decide_eq_false h2
            have hq : ∀ x, decide (Lst (listed.setIfInBounds i true) x) = true ↔ x = i ∨ decide (Lst listed x) = true := fun x => by
              rw [decide_eq_true_iff, decide_eq_true_iff]; exact hset x
            refine ih _ _ w' G2 (by simp [hs]) ?_ ?_ ?_ ?_
            · intro j o' hj ho' e he
              rcases (hset j).1 hj with rfl | hj
              · rw [h1] at ho'
                simp only [Option.some.injEq] at ho'; subst ho'
                exact (hset e).2 (.inr (h3 e he))
              · exact (hset e).2 (.inr (hc j o' hj ho' e he))
            · intro j hj hl
              rcases (hset j).1 hl with rfl | hl
              · omega
              · exact hge j hj hl
            · have := filter_add hni hq (l := List.range m) (by rw [List.range_eq_range']; exact ascL_range' m 0)
              rw [this, if_pos (by simpa using him)]
              omega
            · have hdst : ∀ d, dstOf ops i = some d → d < a.tmps.size := by
                intro d hdd'
                have := allI_get hdd him
                rw [hdd'] at this
                simp only [Bool.and_eq_true] at this
                rw [hI.size]
                exact Nat.le_of_ble_eq_true this.1
              have hsame : ∀ s, dstOf ops i ≠ some s → (a.put (dstOf ops i) v).tmps.getD s Go.undef = a.tmps.getD s Go.undef := by
                intro s hs'
                cases hdo : dstOf ops i with
                | none => rfl
                | some d =>
                  rw [getD_put (hdst d hdo), if_neg]
                  intro he; subst he; exact hs' hdo
              refine ⟨Gh.le_trans hI.le hle, ?_, ?_, ?_, ?_, ?_⟩
              · cases hdo : dstOf ops i with
                | none => exact hI.size
                | some d => simp [Act.put, hI.size]
              · cases hdo : dstOf ops i with
                | none => exact hI.defs
                | some d => simp [Act.put, hI.defs]
              · intro j d hj hl hjd
                by_cases hij : j = i
                · subst hij
                  rw [hjd, getD_put (hdst d hjd), if_pos rfl]
                  exact hv
                · have hl' : Lst listed j := ((hset j).1 hl).resolve_left hij
                  rw [hsame d (fun he => by
                    have := allI_get hdd him
                    rw [he] at this
                    simp only [Bool.and_eq_true] at this
                    have := allI_get this.2 hj
                    rw [hjd] at this
                    simp only [Bool.or_eq_true, Bool.not_eq_true'] at this
                    rcases this with h7 | h7
                    · exact hij (Nat.eq_of_beq_eq_true h7).symm
                    · have := Nat.beq_refl d; rw [h7] at this; simp at this)]
                  exact EnR_mono hle (hI.new j d hj hl' hjd)
              · intro s e hs' hno
                rw [hsame s (fun he => hno i him ((hset i).2 (.inl rfl)) he)]
                exact EnR_mono hle (hI.old s e hs' (fun j hj hl => hno j hj ((hset j).2 (.inr hl))))
              · have := filter_add hni hq (l := loud) hasc
                rw [this]
                exact hh
  have h0 : ∀ i, ¬ Lst (Array.replicate ops.size false) i := by
    intro i hi
    unfold Lst at hi
    simp only [Array.getD_eq_getD_getElem?, Array.getElem?_replicate] at hi
    split at hi <;> simp at hi
  refine key ops.size _ a _ G (by simp) (fun j o hj => (h0 j hj).elim) (fun j _ => h0 j) ?_ ⟨Gh.le_refl G, hE.1, hE.2.1, fun i d _ hi => (h0 i hi).elim, fun s e hs _ => hE.2.2 s e hs, ?_⟩
  · rw [List.filter_eq_nil_iff.2 (fun x _ => by simpa using h0 x)]; simp
  · rw [List.filter_eq_nil_iff.2 (fun x _ => by simpa using h0 x)]
    exact hH.drawn _
  where
  par_env {listed : Array Bool} {a : Act} {w : World} {G' : Gh} {Tk : Nat → Tabs} {Lk : Nat → List LS} {m : Nat} {D : List En} {loud : List Nat} (hI : ParInv P ops N m E D loud G Tk Lk (Lst listed) a w G') (hall : ∀ i, i < m → Lst listed i) : EnvR G' N a (finE ops D m ++ E) := by
    refine ⟨hI.size, hI.defs, fun s e hs => ?_⟩
    rw [lk_append] at hs
    cases hf : lk (finE ops D m) s with
    | some e' =>
      rw [hf] at hs; simp at hs; subst hs
      obtain ⟨i, h1, h2, rfl⟩ := finE_ok hf
      exact hI.new i s h1 (hall i h1) h2
    | none =>
      rw [hf] at hs; simp at hs
      exact hI.old s e hs (fun i hi _ => finE_none hf i hi)
  par_holds {listed : Array Bool} {a : Act} {w : World} {G' : Gh} {Tk : Nat → Tabs} {Lk : Nat → List LS} {m : Nat} {D : List En} {loud : List Nat} (hI : ParInv P ops N m E D loud G Tk Lk (Lst listed) a w G') (hall : ∀ i, i < m → Lst listed i) (hlm : loud.all (fun l => Nat.blt l m) = true) : Holds w G' (Tk loud.length) (Lk loud.length) := by
    have := hI.holds
    rwa [List.filter_eq_self.2 (fun x hx => by
      simp only [List.all_eq_true] at hlm
      simpa using hall x (Nat.le_of_ble_eq_true (hlm x hx)))] at this

/-! ### What each operation does -/
variable {D : List En} {loud : List Nat} {G0 : Gh} {Tk : Nat → Tabs} {Lk : Nat → List LS}

def rdE (P : Program) (T : Tabs) (Ls : List LS) (ops : Array Oper) (E : Env) (i : Nat) (A : List Adv) : Option (En × List Prop × List Adv) :=
  match ops[i]? with
  | some o => (match segOpO P T Ls ops (look E []) o A with
    | some (e, O, A') => (match rsv (look E []) e with
      | some e' => some (e', O, A')
      | none => none)
    | none => none)
  | none => none

/-- One that only reads. -/
theorem obR {i k : Nat} (A : List Adv) {Os : List Prop} (hO : AllP Os) (hl : loud.contains i = false) (h : rdE P (Tk k) (Lk k) ops (envI ops E D i) i A = some (D.getD i .undef, Os, [])) : OpOb P ops Q N E D loud G0 Tk Lk i k := by
  intro a w G hle hE hH
  unfold rdE at h
  split at h
  · rename_i o ho
    split at h
    · rename_i e O A' he
      split at h
      · rename_i e' hr
        simp only [Option.some.injEq, Prod.mk.injEq] at h
        obtain ⟨rfl, rfl, rfl⟩ := h
        obtain ⟨k1, k2⟩ := segOpO_ok (P := P) hH (CurR_start hE) he hO
        have hd : dstOf ops i = o.dst := by unfold dstOf; rw [ho]; rfl
        unfold wpOp
        rw [ho]
        simp only [hl, Bool.false_eq_true, if_false]
        split
        · rename_i hw
          obtain ⟨v, hr', hv⟩ := k1 hw
          refine .inl ?_
          unfold Oper.wp
          rw [hr']
          exact ⟨v, G, by rw [hd], Gh.le_refl G, rsv_ok (CurR_start hE) hv hr, hH⟩
        · rename_i hw
          exact ⟨Go.undef, G, by rw [hd], Gh.le_refl G, rsv_ok (CurR_start hE) (k2 (by simpa using hw)) hr, hH⟩
      · simp at h
    · simp at h
  · simp at h

/-- One that calls a named function. -/
theorem obC {i k f : Nat} {As : List En} {R : En} {d : Option Nat} (hS : Spec P f As (Tk k) R (Tk (k + 1))) (hLk : Lk (k + 1) = Lk k) (hN : NoHole (Lk k)) (hl : loud.contains i = true)
    (hc : callE ops (envI ops E D i) i As = some (f, As, d)) (hR : D.getD i .undef = R) (hout : True) : OpOb P ops Q N E D loud G0 Tk Lk i k := by
  intro a w G hle hE hH
  unfold callE at hc
  split at hc
  · rename_i o ho
    split at hc
    · rename_i hgo
      have hw := goes_ok (CurR_start hE) hgo
      split at hc
      · rename_i c hop
        split at hc
        · rename_i f' hcal
          split at hc
          · rename_i es hes
            simp only [Option.some.injEq, Prod.mk.injEq] at hc
            obtain ⟨rfl, rfl, rfl⟩ := hc
            have hd : dstOf ops i = o.dst := by unfold dstOf; rw [ho]; rfl
            unfold wpOp
            rw [ho]
            simp only [hl, if_true]
            rw [if_pos hw]
            refine .inl ?_
            unfold Oper.wp
            have hr : (execOp a.eval o).run P w = .ok (.enter f' (c.args.toList.map a.eval).toArray) w := by
              have hargs : (c.args.map a.eval) = (c.args.toList.map a.eval).toArray := by
                apply Array.ext'; simp
              simp [execOp, hop, resolve, hcal, Act.eval, Deferred.ofValue, invoke, callFunc_enter hS.ok]
              exact hargs
            rw [hr]
            refine (hS.run _ w G _ (enOps_ok (CurR_start hE) hes) hH hN).mono ?_
            intro e w' hp
            cases e with
            | returned v =>
              obtain ⟨G', hle', hv, hH'⟩ := hp
              exact ⟨v, G', by rw [hd], hle', by rw [hR]; exact hv, by rw [hLk]; exact hH'⟩
            | panicked c => exact hp.elim
            | outgrown => exact False.elim hp
          · simp at hc
        · simp at hc
      · simp at hc
    · simp at hc
  · simp at hc

end
end Go.Proofs.Ytlfemhkabjafeaa.M

/- Own library, part 12: small helpers of the printed walks. -/
set_option linter.unusedVariables false
set_option linter.unusedSimpArgs false
namespace Go.Proofs.Ytlfemhkabjafeaa.M

abbrev Kd.i : Kd := .int .i64

theorem bs {α β : Type} {x : Option α} {f : α → Option β} {r : β} (h : (x >>= f) = some r) : ∃ v, x = some v ∧ f v = some r := by
  cases x with
  | none => exact absurd h (by simp)
  | some v => exact ⟨v, rfl, h⟩

theorem gd {α : Type} {p : Prop} [Decidable p] {x : Option α} {r : α} (h : (if p then x else none) = some r) : p ∧ x = some r := by
  by_cases hp : p
  · rw [if_pos hp] at h; exact ⟨hp, h⟩
  · rw [if_neg hp] at h; exact absurd h (by simp)

theorem rs {α : Type} (i : α) : (some i : Option α) = some i := rfl

theorem bf {b : Bool} (h : ¬ b = true) : b = false := by cases b <;> simp_all

def ix {α : Type} (xs : List α) (i : Int) : Option α := if 0 ≤ i then xs[i.toNat]? else none

theorem IxAt.of {k : Kd} {xs : List k.den} {n : Int} {y : k.den} (h : ix xs n = some y) : IxAt k xs n k y := by
  unfold ix at h
  obtain ⟨h0, h⟩ := gd h
  exact IxAt.mk h0 h

theorem ObAt.mk {T : Tabs} {t i : Nat} {fs : List Fk} {x : denFs fs} {xs : List (denFs fs)} (h0 : T t = some ⟨fs, xs⟩) (h : xs[i]? = some x) : ObAt T t i fs x := ⟨xs, h0, h⟩

/-- The entries of a list as the other list wants them. -/
def subC (E : Env) : Env → Option Env
  | [] => some []
  | (s, want) :: r => (match lk E s with
    | some e => (match coeE want e with
      | some e' => (match subC E r with
        | some l => some ((s, e') :: l)
        | none => none)
      | none => none)
    | none => none)

theorem subC_lk {G : Gh} {N : Nat} {a : Act} {E : Env} (hE : EnvR G N a E) : ∀ {D D' : Env}, subC E D = some D' → ∀ s e, lk D' s = some e → EnR G e (a.tmps.getD s Go.undef)
  | [], D', h, s, e, hs => by simp [subC] at h; subst h; simp [lk] at hs
  | (t, want) :: r, D', h, s, e, hs => by
    unfold subC at h
    split at h
    · rename_i e0 h0
      split at h
      · rename_i e' h1
        split at h
        · rename_i l hl
          simp only [Option.some.injEq] at h; subst h
          rw [lk_cons] at hs
          by_cases hst : t = s
          · subst hst
            simp at hs; subst hs
            exact coeE_ok h1 (hE.2.2 _ _ h0)
          · rw [if_neg hst] at hs
            exact subC_lk hE hl s e hs
        · simp at h
      · simp at h
    · simp at h

theorem EnvR.subC {G : Gh} {N : Nat} {a : Act} {E D : Env} (hE : EnvR G N a E) (h : M.subC E D = some D) : EnvR G N a D :=
  ⟨hE.1, hE.2.1, fun s e hs => subC_lk hE h s e hs⟩

theorem Exit.in_eq {id : Nat} {Q : Exit → Act → World → Prop} {a : Act} {w : World} (h : Q .normal a w) : Exit.inBlock id Q (.exit id) a w := by
  unfold Exit.inBlock
  simp only [if_true]
  exact h

theorem ifT {α : Type} {b : Bool} {x y : Option α} {r : α} (hc : b = true) (h : (if b = true then x else y) = some r) : x = some r := by rw [if_pos hc] at h; exact h
theorem ifF {α : Type} {b : Bool} {x y : Option α} {r : α} (hc : b = false) (h : (if b = true then x else y) = some r) : y = some r := by subst hc; exact h
theorem ifN {α : Type} {b : Bool} {x y : Option α} {r : α} (hc : ¬ b = true) (h : (if b = true then x else y) = some r) : y = some r := by rw [if_neg hc] at h; exact h
theorem eb {b c : Bool} (h : b = c) : En.kv .bool b = En.kv .bool c := by rw [h]

section
variable {P : Program} {w : World} {a : Act} {Q : Exit → Act → World → Prop} {K : Act → World → Prop} {id : Nat}
theorem Exit.then_normal (h : K a w) : Exit.then K Q .normal a w := h
theorem Exit.then_exit (h : Q (.exit id) a w) : Exit.then K Q (.exit id) a w := h
theorem Exit.then_ret (h : Q .ret a w) : Exit.then K Q .ret a w := h
theorem Exit.in_normal (h : Q .normal a w) : Exit.inBlock id Q .normal a w := h
theorem Exit.in_ret (h : Q .ret a w) : Exit.inBlock id Q .ret a w := h
theorem Exit.in_ne {id' : Nat} (hne : ¬ id' = id) (h : Q (.exit id') a w) : Exit.inBlock id Q (.exit id') a w := by
  unfold Exit.inBlock; simp only [hne, if_false]; exact h
theorem loop_intro {c : Code} (h : ∀ (Q' : Exit → Act → World → Prop) (c' : Code), Q' = Q → c' = c → Rnd P c' Q' a w) : (Code.loop c).wp P Q a w := wp_loop_rnd (h Q c rfl rfl)
theorem rnd_step' {c c' : Code} (hc : c' = c) (h : c.wp P (Exit.then (Rnd P c' Q) Q) a w) : Rnd P c' Q a w := by subst hc; exact rnd_step h
theorem join_intro {c : Code} {I : Act → World → Prop} (ho : True) (h1 : ∀ a w, I a w → Q .normal a w) (h2 : ∀ Q' : Exit → Act → World → Prop, (∀ a w, I a w → Q' .normal a w) → True → c.wp P Q' a w) : c.wp P Q a w := h2 Q h1 ho
end

section
variable {P : Program} {w : World} {G : Gh} {T : Tabs} {Ls : List LS} {a : Act} {N : Nat} {E : Env} {ops : Array Oper} {Q : Exit → Act → World → Prop} {D : List En} {loud : List Nat} {G0 : Gh} {Tk : Nat → Tabs} {Lk : Nat → List LS}
/-- One that only reads; its value seen as the list has it. -/
theorem obRe {i k : Nat} (A : List Adv) {Os : List Prop} (hO : AllP Os) {e : En} (hl : loud.contains i = false) (h : rdE P (Tk k) (Lk k) ops (envI ops E D i) i A = some (e, Os, [])) (he : e = D.getD i .undef) : OpOb P ops Q N E D loud G0 Tk Lk i k :=
  obR A hO hl (by rw [h, he])
theorem eb2 {D : List En} {i : Nat} {b c : Bool} (h : b = c) (hd : D.getD i .undef = En.kv .bool c) : En.kv .bool b = D.getD i .undef := by rw [hd, h]
end
end Go.Proofs.Ytlfemhkabjafeaa.M

/- Own library, part 13: functions as values; new objects of the tables. -/
set_option linter.unusedVariables false
set_option linter.unusedSimpArgs false
namespace Go.Proofs.Ytlfemhkabjafeaa.M

section
variable {P : Program} {w : World} {G : Gh} {T T' : Tabs} {Ls : List LS} {a : Act} {N : Nat} {E : Env} {ops : Array Oper} {Q : Exit → Act → World → Prop}

/-! ### Functions as values -/
def capsE (look : Nat → Option En) : List Operand → Option (List (Nat × Nat))
  | [] => some []
  | x :: r => (match opnd look [] x with
    | some (.fldA t i 0) => (match capsE look r with
      | some l => some ((t, i) :: l)
      | none => none)
    | _ => none)

theorem capsE_ok {L : Nat → Option En} (hL : CurR G a L) : ∀ {xs : List Operand} {l : List (Nat × Nat)}, capsE L xs = some l →
    All2 (fun (p : Nat × Nat) (u : Value) => ∃ b, G.role b = .obj p.1 p.2 ∧ u = .pointer (some ⟨b, 0, none⟩)) l (xs.map a.eval)
  | [], l, h => by simp [capsE] at h; subst h; trivial
  | x :: xs, l, h => by
    unfold capsE at h
    split at h
    · rename_i t i hx
      split at h
      · rename_i l' hl
        simp only [Option.some.injEq] at h; subst h
        exact ⟨opnd_ok hL (by simp) hx, capsE_ok hL hl⟩
      · simp at h
    · simp at h

def mfE (ops : Array Oper) (E : Env) (i : Nat) : Option (Nat × List (Nat × Nat) × Option Nat) :=
  match ops[i]? with
  | some o => (match goes ops (look E []) o, o.op with
    | true, .makeFunc (.func f) first caps => (match first.toList with
      | [] => (match capsE (look E []) caps.toList with
        | some l => some (f, l, o.dst)
        | none => none)
      | _ => none)
    | _, _ => none)
  | none => none

theorem stepMF {f : Nat} {l : List (Nat × Nat)} {d : Option Nat} {i : Nat} (hE : EnvR G N a E) (hb : mfE ops E i = some (f, l, d)) (hd : dstOK d N = true)
    (k : ∀ a', EnvR G N a' (putE d (.clo f l) E) → wpFrom P ops Q (i + 1) a' w) : wpFrom P ops Q i a w := by
  unfold mfE at hb
  split at hb
  · rename_i o ho
    split at hb
    · rename_i f' first caps hg hop
      split at hb
      · rename_i hfirst
        split at hb
        · rename_i l' hl
          simp only [Option.some.injEq, Prod.mk.injEq] at hb
          obtain ⟨rfl, rfl, rfl⟩ := hb
          have hf : first = #[] := by
            apply Array.ext'; simpa using hfirst
          subst hf
          refine wpFrom_value ho (goes_ok (CurR_start hE) hg) (v := .func (.func f') #[] (caps.toList.map a.eval).toArray) (w' := w) ?_ (k _ (hE.putO hd ⟨_, rfl, capsE_ok (CurR_start hE) hl⟩))
          simp only [execOp, hop]
          refine run_val ?_
          have : caps.map a.eval = (caps.toList.map a.eval).toArray := by apply Array.ext'; simp
          simp [Instr.makeFunc, this]
        · simp at hb
      · simp at hb
    · simp at hb
  · simp at hb

def fldEs : List (Nat × Nat) → List En
  | [] => []
  | (t, i) :: r => .fldA t i 0 :: fldEs r

theorem fldEs_ok : ∀ {l : List (Nat × Nat)} {vs : List Value}, All2 (fun (p : Nat × Nat) (u : Value) => ∃ b, G.role b = .obj p.1 p.2 ∧ u = .pointer (some ⟨b, 0, none⟩)) l vs → All2 (EnR G) (fldEs l) vs
  | [], [], h => trivial
  | (t, i) :: l, v :: vs, ⟨h1, h2⟩ => ⟨h1, fldEs_ok h2⟩
  | [], _ :: _, h => h.elim
  | _ :: _, [], h => h.elim

theorem All2_app {α β : Type} {R : α → β → Prop} : ∀ {xs : List α} {ys : List β} {xs' : List α} {ys' : List β}, All2 R xs ys → All2 R xs' ys' → All2 R (xs ++ xs') (ys ++ ys')
  | [], [], _, _, _, h => h
  | x :: xs, y :: ys, _, _, ⟨h1, h2⟩, h => ⟨h1, All2_app h2 h⟩
  | [], _ :: _, _, _, h, _ => h.elim
  | _ :: _, [], _, _, h, _ => h.elim

/-- A call of a function value at place i: which, over which variables, with what, and where its result goes. -/
def callCE (ops : Array Oper) (E : Env) (i : Nat) (ws : List En) : Option (Nat × List (Nat × Nat) × List En × Option Nat) :=
  match ops[i]? with
  | some o => (match goes ops (look E []) o with
    | true => (match o.op with
      | .call c => (match c.callee with
        | .value x => (match opnd (look E []) [] x with
          | some (.clo f l) => (match enOps (look E []) ws c.args.toList with
            | some es => some (f, l, es, o.dst)
            | none => none)
          | _ => none)
        | _ => none)
      | _ => none)
    | false => none)
  | none => none

theorem stepCallC {i f : Nat} {l : List (Nat × Nat)} {As : List En} {R : En} {d : Option Nat} (hS : Spec P f (As ++ fldEs l) T R T') (hE : EnvR G N a E) (hH : Holds w G T Ls) (hN : NoHole Ls)
    (hc : callCE ops E i As = some (f, l, As, d)) (hd : dstOK d N = true) (hout : True)
    (k : ∀ a' w' G', G.le G' → EnvR G' N a' (putE d R E) → Holds w' G' T' Ls → wpFrom P ops Q (i + 1) a' w') : wpFrom P ops Q i a w := by
  unfold callCE at hc
  split at hc
  · rename_i o ho
    split at hc
    · rename_i hgo
      have hw := goes_ok (CurR_start hE) hgo
      split at hc
      · rename_i c hop
        split at hc
        · rename_i x hcal
          split at hc
          · rename_i f' l' hx
            split at hc
            · rename_i es hes
              simp only [Option.some.injEq, Prod.mk.injEq] at hc
              obtain ⟨rfl, rfl, rfl, rfl⟩ := hc
              obtain ⟨vs, hv, hvs⟩ := opnd_ok (CurR_start hE) (by simp) hx
              rw [wpFrom_cons ho, if_pos hw]
              refine .inl ?_
              unfold Oper.wp
              have hr : (execOp a.eval o).run P w = .ok (.enter f' (c.args.toList.map a.eval ++ vs).toArray) w := by
                have hargs : (c.args.map a.eval) ++ vs.toArray = (c.args.toList.map a.eval ++ vs).toArray := by
                  apply Array.ext'; simp
                simp [execOp, hop, resolve, hcal, hv, Deferred.ofValue, invoke, callFunc_enter hS.ok, ← hargs]
              rw [hr]
              refine (hS.run _ w G Ls (All2_app (enOps_ok (CurR_start hE) hes) (fldEs_ok hvs)) hH hN).mono ?_
              intro e w' hp
              cases e with
              | returned v =>
                obtain ⟨G', hle, hv, hH'⟩ := hp
                exact k _ _ G' hle ((hE.mono hle).putO hd hv) hH'
              | panicked c => exact hp.elim
              | outgrown => exact False.elim hp
            · simp at hc
          · simp at hc
        · simp at hc
      · simp at hc
    · simp at hc
  · simp at hc

/-! ### New objects -/
def AddT (T T' : Tabs) (t i : Nat) (fs : List Fk) (x : denFs fs) : Prop := ∃ xs, T t = some ⟨fs, xs⟩ ∧ T' t = some ⟨fs, xs ++ [x]⟩ ∧ xs.length = i ∧ ∀ t', t' ≠ t → T' t' = T t'

theorem Holds.newObj (h : Holds w G T Ls) {t i : Nat} {fs : List Fk} {x : denFs fs} (hT : AddT T T' t i fs x) {cs : Array Value} (e : TypeId)
    (hob : ObjR (w.alloc (.cells cs e)) (G.set w.heap.size (.obj t i)) Ls t i 0 fs x cs.toList) : Holds (w.alloc (.cells cs e)) (G.set w.heap.size (.obj t i)) T' Ls := by
  obtain ⟨xs, h1, h2, h3, h4⟩ := hT
  subst h3
  have hno : ∀ b, G.role b ≠ .obj t xs.length := by
    intro b hb
    have := h.block b
    unfold BlockOK at this
    rw [hb] at this
    obtain ⟨tab, y, ce, ty, k1, k2, _⟩ := this
    rw [h1] at k1
    simp only [Option.some.injEq] at k1; subst k1
    simp at k2
  refine h.alloc _ _ T' Ls ?_ ?_ (fun _ _ _ => rfl) (fun l hl => .inl hl) h.nd ?_ ?_ (fun _ _ _ => by simp) ?_
  · unfold BlockOK
    rw [Gh.set_same]
    exact ⟨_, x, cs, e, h2, by simp, heap_alloc_new' w _, hob⟩
  · intro b t' i' hb tab y k1 k2
    by_cases ht : t' = t
    · subst ht
      rw [h1] at k1
      simp only [Option.some.injEq] at k1; subst k1
      exact .inr ⟨[x], h2⟩
    · exact .inl (by rw [h4 _ ht]; exact k1)
  · intro t' tab i' k1 k2
    by_cases ht : t' = t
    · subst ht
      rw [h2] at k1
      simp only [Option.some.injEq] at k1; subst k1
      simp only [List.length_append, List.length_cons, List.length_nil] at k2
      rcases Nat.lt_or_ge i' xs.length with k3 | k3
      · obtain ⟨b, hb⟩ := h.ex _ _ i' h1 k3
        exact ⟨b, by rw [Gh.set_ne _ _ (by have := h.lt (b := b) (by rw [hb]; simp); omega)]; exact hb⟩
      · exact ⟨w.heap.size, by rw [Gh.set_same, show i' = xs.length by omega]⟩
    · rw [h4 _ ht] at k1
      obtain ⟨b, hb⟩ := h.ex _ _ i' k1 k2
      exact ⟨b, by rw [Gh.set_ne _ _ (by have := h.lt (b := b) (by rw [hb]; simp); omega)]; exact hb⟩
  · intro t' i' hr b
    simp only [Role.obj.injEq] at hr
    obtain ⟨rfl, rfl⟩ := hr
    exact hno b
  · intro t' tab k1
    by_cases ht : t' = t
    · subst ht
      rw [h1] at k1
      simp only [Option.some.injEq] at k1; subst k1
      exact ⟨[x], h2⟩
    · exact ⟨[], by rw [h4 _ ht, k1]; simp⟩

/-- The fields of an object from a struct's value. -/
def SameF : (fs : List Fk) → (K : Kd) → denFs fs → K.den → Prop
  | [], .unit, _, _ => True
  | .p k :: r, .pair k' K, x, y => k = k' ∧ HEq x.1 y.1 ∧ SameF r K x.2 y.2
  | _, _, _, _ => False

theorem ObjR_same : ∀ {fs : List Fk} {K : Kd} {x : denFs fs} {y : K.den} {cs : List Value} {t i f : Nat}, SameF fs K x y → Kr G K y cs → ObjR w G Ls t i f fs x cs
  | [], .unit, _, _, cs, _, _, _, _, h => h
  | .p k :: r, .pair k' K, x, y, cs, t, i, f, hs, h => by
    obtain ⟨rfl, h1, h2⟩ := hs
    obtain ⟨c1, c2, rfl, k1, k2⟩ := h
    refine ⟨c1, c2, rfl, ?_, ObjR_same h2 k2⟩
    have : x.1 = y.1 := eq_of_heq h1
    show Kr G k x.1 c1
    rw [this]; exact k1

/-- A struct's value becomes an object. -/
theorem stepNew (K : Kd) (y : K.den) {t j : Nat} {fs : List Fk} {x : denFs fs} {e : TypeId} {d : Option Nat} {i : Nat} (hE : EnvR G N a E) (hH : Holds w G T Ls) (hb : boxE ops E i K = some (y, e, d)) (hd : dstOK d N = true)
    (hs : SameF fs K x y) (hT : AddT T T' t j fs x)
    (k : ∀ a' w' G', G.le G' → EnvR G' N a' (putE d (.fldA t j 0) E) → Holds w' G' T' Ls → wpFrom P ops Q (i + 1) a' w') : wpFrom P ops Q i a w := by
  unfold boxE at hb
  split at hb
  · rename_i o ho
    split at hb
    · rename_i e' x0 hg hop
      split at hb
      · rename_i y0 hy
        split at hb
        · rename_i z hz
          simp only [Option.some.injEq, Prod.mk.injEq] at hb
          obtain ⟨rfl, rfl, rfl⟩ := hb
          have hv := coeK_ok hz (opnd_ok (CurR_start hE) (by simp) hy)
          refine wpFrom_value ho (goes_ok (CurR_start hE) hg) (v := .pointer (some ⟨w.heap.size, 0, none⟩)) (w' := w.alloc (.cells (a.eval x0).cells e')) ?_
            (k _ _ _ (Gh.le_new hH _) ((hE.mono (Gh.le_new hH (.obj t j))).putO hd ⟨w.heap.size, Gh.set_same _ _ _, rfl⟩) (hH.newObj hT e' (ObjR_same hs (Kr_mono (Gh.le_new hH _) (VR_cells hv)))))
          simp only [execOp, hop]
          exact run_val (by simp [Instr.box, newVar, newRow])
        · simp at hb
      · simp at hb
    · simp at hb
  · simp at hb

/-- A value becomes an object of one field. -/
theorem stepNew1 (K : Kd) (y : K.den) {t j : Nat} {e : TypeId} {d : Option Nat} {i : Nat} (hE : EnvR G N a E) (hH : Holds w G T Ls) (hb : boxE ops E i K = some (y, e, d)) (hd : dstOK d N = true)
    (hT : AddT T T' t j [.p K] (y, ()))
    (k : ∀ a' w' G', G.le G' → EnvR G' N a' (putE d (.fldA t j 0) E) → Holds w' G' T' Ls → wpFrom P ops Q (i + 1) a' w') : wpFrom P ops Q i a w := by
  unfold boxE at hb
  split at hb
  · rename_i o ho
    split at hb
    · rename_i e' x0 hg hop
      split at hb
      · rename_i y0 hy
        split at hb
        · rename_i z hz
          simp only [Option.some.injEq, Prod.mk.injEq] at hb
          obtain ⟨rfl, rfl, rfl⟩ := hb
          have hv := coeK_ok hz (opnd_ok (CurR_start hE) (by simp) hy)
          refine wpFrom_value ho (goes_ok (CurR_start hE) hg) (v := .pointer (some ⟨w.heap.size, 0, none⟩)) (w' := w.alloc (.cells (a.eval x0).cells e')) ?_
            (k _ _ _ (Gh.le_new hH _) ((hE.mono (Gh.le_new hH (.obj t j))).putO hd ⟨w.heap.size, Gh.set_same _ _ _, rfl⟩) (hH.newObj hT e' ⟨_, [], (List.append_nil _).symm, Kr_mono (Gh.le_new hH _) (VR_cells hv), rfl⟩))
          simp only [execOp, hop]
          exact run_val (by simp [Instr.box, newVar, newRow])
        · simp at hb
      · simp at hb
    · simp at hb
  · simp at hb

/-- A zero value becomes an object of one field. -/
theorem stepAlloc1 (K : Kd) {t j : Nat} {e : TypeId} {d : Option Nat} {i : Nat} (hE : EnvR G N a E) (hH : Holds w G T Ls) (hb : allocE P ops E i K = some (e, d)) (hd : dstOK d N = true)
    (hT : AddT T T' t j [.p K] (zeroK K, ()))
    (k : ∀ a' w' G', G.le G' → EnvR G' N a' (putE d (.fldA t j 0) E) → Holds w' G' T' Ls → wpFrom P ops Q (i + 1) a' w') : wpFrom P ops Q i a w := by
  unfold allocE at hb
  split at hb
  · rename_i o ho
    split at hb
    · rename_i e' hg hop
      split at hb
      · rename_i z hz
        split at hb
        · rename_i hzero
          simp only [Option.some.injEq, Prod.mk.injEq] at hb
          obtain ⟨rfl, rfl⟩ := hb
          have hv := isZero_ok (G := G) hzero
          refine wpFrom_value ho (goes_ok (CurR_start hE) hg) (v := .pointer (some ⟨w.heap.size, 0, none⟩)) (w' := w.alloc (.cells z.cells e')) ?_
            (k _ _ _ (Gh.le_new hH _) ((hE.mono (Gh.le_new hH (.obj t j))).putO hd ⟨w.heap.size, Gh.set_same _ _ _, rfl⟩) (hH.newObj hT e' ⟨_, [], (List.append_nil _).symm, Kr_mono (Gh.le_new hH _) (VR_cells hv), rfl⟩))
          have hz' : (zeroValue e').run P w = .ok z w := by
            unfold zeroOf at hz
            split at hz
            · rename_i it hit; simp [zeroValue, typeInfo, hit, hz]
            · simp at hz
          simp only [execOp, hop]
          exact run_val (by simp [Instr.alloc, newVar, newRow, hz'])
        · simp at hb
      · simp at hb
    · simp at hb
  · simp at hb
end
end Go.Proofs.Ytlfemhkabjafeaa.M

/- Own library, part 14: maps that are fields of objects: updates, deletes; a new object with an empty map. -/
set_option linter.unusedVariables false
set_option linter.unusedSimpArgs false
namespace Go.Proofs.Ytlfemhkabjafeaa.M

def mapSet (kk kv : Kd) (key : kk.den) (v : kv.den) : List (kk.den × kv.den) → List (kk.den × kv.den)
  | [] => [(key, v)]
  | (k, u) :: r => (match keyEq kk key k with
    | true => (key, v) :: r
    | false => (k, u) :: mapSet kk kv key v r)

def mapDel (kk kv : Kd) (key : kk.den) : List (kk.den × kv.den) → List (kk.den × kv.den)
  | [] => []
  | (k, u) :: r => (match keyEq kk key k with
    | true => r
    | false => (k, u) :: mapDel kk kv key r)

def setM : (fs : List Fk) → denFs fs → Nat → (mp : MP) → Option (denFs fs)
  | [], _, _, _ => none
  | .omap kk kv :: _, x, 0, mp => if h : mp.kk = kk ∧ mp.kv = kv then some (by obtain ⟨k1, k2, m⟩ := mp; exact (h.1 ▸ h.2 ▸ m, x.2)) else none
  | _ :: _, _, 0, _ => none
  | _ :: r, x, f + 1, mp => (match setM r x.2 f mp with
    | some y => some (x.1, y)
    | none => none)

section
variable {P : Program} {w : World} {G : Gh} {T T' : Tabs} {Ls : List LS} {a : Act} {N : Nat} {E : Env} {ops : Array Oper} {Q : Exit → Act → World → Prop}

theorem map_found {kk kv : Kd} {d : TypeDesc} {key : kk.den} {u : Value} (hk : keyOK kk (some d) = true) (hx : VR G kk key u) :
    ∀ {m : List (kk.den × kv.den)} {es : List MapEntry} {i : Nat}, mapL G kk kv m es →
      (∃ j e, Instr.findNow d u es i = some (some (i + j, e.val)) ∧ es[j]? = some e ∧ Instr.sameBits 10000 e.key u = true ∧ mapDel kk kv key m = m.eraseIdx j ∧ ∀ v, mapSet kk kv key v m = m.modify j (fun _ => (key, v))) ∨
      (Instr.findNow d u es i = some none ∧ mapDel kk kv key m = m ∧ ∀ v, mapSet kk kv key v m = m ++ [(key, v)])
  | [], [], i, _ => .inr ⟨rfl, rfl, fun _ => rfl⟩
  | (k, z) :: m, e :: es, i, ⟨⟨h1, h2⟩, h3⟩ => by
    have hs := keyEq_now hk hx h1
    cases hq : keyEq kk key k with
    | true =>
      rw [hq] at hs
      refine .inl ⟨0, e, by simp [Instr.findNow, hs], rfl, ?_, by simp [mapDel, hq], fun v => by simp [mapSet, hq, List.modify_cons]⟩
      rw [show (10000 : Nat) = 9999 + 1 from rfl]
      cases kk <;> cases d <;> simp [keyOK] at hk
      · simp only at h1 hx
        rw [VR_int.1 h1, VR_int.1 hx]
        simp only [keyEq, beq_iff_eq] at hq
        simp [Instr.sameBits, hq]
      · simp only at h1 hx
        rw [VR_bool.1 h1, VR_bool.1 hx]
        simp only [keyEq, beq_iff_eq] at hq
        simp [Instr.sameBits, hq]
      · simp only at h1 hx
        rw [VR_str.1 h1, VR_str.1 hx]
        simp only [keyEq, beq_iff_eq] at hq
        simp only [Instr.sameBits, hq]
        rw [bytes_beq]
        simp
    | false =>
      rw [hq] at hs
      rcases map_found (i := i + 1) hk hx h3 with ⟨j, e', k1, k2, k3, k4, k5⟩ | ⟨k1, k2, k3⟩
      · refine .inl ⟨j + 1, e', ?_, by simpa using k2, k3, by simp [mapDel, hq, k4], fun v => by simp [mapSet, hq, k5 v, List.modify_cons]⟩
        simp only [Instr.findNow, hs]
        rw [k1]
        simp; omega
      · exact .inr ⟨by simp [Instr.findNow, hs, k1], by simp [mapDel, hq, k2], fun v => by simp [mapSet, hq, k3 v]⟩
  | [], _ :: _, _, h => h.elim
  | _ :: _, [], _, h => h.elim

theorem All2_modify {α β : Type} {R : α → β → Prop} {f : α → α} {g : β → β} (hfg : ∀ x y, R x y → R (f x) (g y)) : ∀ {xs : List α} {ys : List β} {j : Nat}, All2 R xs ys → All2 R (xs.modify j f) (ys.modify j g)
  | [], [], j, h => by cases j <;> exact trivial
  | x :: xs, y :: ys, 0, ⟨h1, h2⟩ => by simp only [List.modify_zero_cons]; exact ⟨hfg _ _ h1, h2⟩
  | x :: xs, y :: ys, j + 1, ⟨h1, h2⟩ => by simp only [List.modify_succ_cons]; exact ⟨h1, All2_modify hfg h2⟩
  | [], _ :: _, _, h => h.elim
  | _ :: _, [], _, h => h.elim

theorem All2_erase {α β : Type} {R : α → β → Prop} : ∀ {xs : List α} {ys : List β} {j : Nat}, All2 R xs ys → All2 R (xs.eraseIdx j) (ys.eraseIdx j)
  | [], [], j, h => by cases j <;> exact trivial
  | x :: xs, y :: ys, 0, ⟨h1, h2⟩ => h2
  | x :: xs, y :: ys, j + 1, ⟨h1, h2⟩ => ⟨h1, All2_erase h2⟩
  | [], _ :: _, _, h => h.elim
  | _ :: _, [], _, h => h.elim

def setH (w : World) (r : Nat) (o : Obj) : World := { w with heap := w.heap.setIfInBounds r o }

theorem run_setM {r : Nat} {es : Array MapEntry} {cl : Nat} (hh : w.heap[r]? = some (.map es cl)) (o : Obj) : (setObj r o).run P w = .ok () (setH w r o) := by
  simp [setObj, Sem.run, hh, setH]

theorem run_keep {old new : Value} (h : Instr.sameBits 10000 old new = true) : (Instr.keyThatStays old new).run P w = .ok new w := by
  simp [Instr.keyThatStays, h]

theorem setH_same {r : Nat} {o o' : Obj} (hh : w.heap[r]? = some o) : (setH w r o').heap[r]? = some o' := by
  have := (Array.getElem?_eq_some_iff.1 hh).1
  simp [setH, this]

theorem setH_ne {r b : Nat} {o' : Obj} (h : b ≠ r) : (setH w r o').heap[b]? = w.heap[b]? := by
  simp [setH, Array.getElem?_setIfInBounds_ne (Ne.symm h)]

theorem modify_mem {es : List MapEntry} {j : Nat} {u v : Value} {x : MapEntry} (h : x ∈ es.modify j (fun e => { e with key := u, val := v })) : ∃ y ∈ es, x = y ∨ x = { y with key := u, val := v } := by
  induction es generalizing j with
  | nil => cases j <;> simp at h
  | cons e es ih =>
    cases j with
    | zero =>
      simp only [List.modify_zero_cons, List.mem_cons] at h
      rcases h with h | h
      · exact ⟨e, List.mem_cons_self, .inr h⟩
      · exact ⟨x, List.mem_cons_of_mem _ h, .inl rfl⟩
    | succ j =>
      simp only [List.modify_succ_cons, List.mem_cons] at h
      rcases h with h | h
      · exact ⟨x, by rw [h]; exact List.mem_cons_self, .inl rfl⟩
      · obtain ⟨y, hy, hb⟩ := ih h
        exact ⟨y, List.mem_cons_of_mem _ hy, hb⟩

theorem modify_born {u v : Value} : ∀ {es : List MapEntry} {j : Nat}, (es.modify j (fun e => { e with key := u, val := v })).map (·.born) = es.map (·.born)
  | [], j => by cases j <;> rfl
  | e :: es, 0 => by simp
  | e :: es, j + 1 => by simp only [List.modify_succ_cons, List.map_cons, modify_born]

theorem mapUpdate_run {mt kt et : TypeId} {kk kv : Kd} {key : kk.den} {z : kv.den} {u v : Value} {r cl : Nat} {es : Array MapEntry} {m : List (kk.den × kv.den)} {d : TypeDesc}
    (hty : P.underlying mt = some (.map kt et)) (hd : P.underlying kt = some d) (hk : keyOK kk (some d) = true) (hh : w.heap[r]? = some (.map es cl)) (hm : mapR G kk kv m es.toList cl) (hu : VR G kk key u) (hv : VR G kv z v) :
    ∃ es' cl', (Instr.mapUpdate mt (.map (some r)) u v).run P w = .ok () (setH w r (.map es' cl')) ∧ mapR G kk kv (mapSet kk kv key z m) es'.toList cl' := by
  have hck : ∀ b, (Instr.checkKey b 10000 kt u).run P w = .ok () w := fun b => checkKey_ok hd hk hu
  have hgo : (getObj r).run P w = .ok (.map es cl) w := by simp [getObj, Sem.run, hh]
  rcases map_found (i := 0) hk hu hm.1 with ⟨j, e, k1, k2, k3, k4, k5⟩ | ⟨k1, k2, k3⟩
  · have hf : (Instr.findKey kt u es.toList).run P w = .ok (some (j, e.val)) w := by simp [Instr.findKey, underlying, hd, k1]
    refine ⟨es.modify j (fun e => { e with key := u, val := v }), cl, ?_, ?_⟩
    rotate_left
    · rw [k5 z]
      have he : (es.modify j (fun e => { e with key := u, val := v })).toList = es.toList.modify j (fun e => { e with key := u, val := v }) := by simp
      rw [he]
      refine ⟨?_, ?_, ?_⟩
      rotate_left
      · intro x hx
        obtain ⟨y, hy, hb⟩ := modify_mem hx
        rcases hb with hb | hb
        · rw [hb]; exact hm.2.1 _ hy
        · rw [hb]; exact hm.2.1 y hy
      · rw [modify_born]; exact hm.2.2
      exact All2_modify (R := fun (p : kk.den × kv.den) (e : MapEntry) => VR G kk p.1 e.key ∧ VR G kv p.2 e.val) (f := fun _ => (key, z)) (g := fun e => { e with key := u, val := v }) (j := j) (fun x y _ => ⟨hu, hv⟩) hm.1
    · have k2' : es[j]? = some e := by simpa using k2
      unfold Instr.mapUpdate
      rw [run_und hty]
      simp [hgo, hck, hf, k2', run_keep k3, run_setM hh]
  · have hf : (Instr.findKey kt u es.toList).run P w = .ok none w := by simp [Instr.findKey, underlying, hd, k1]
    refine ⟨es.push { key := u, val := v, born := cl }, cl + 1, ?_, ?_⟩
    rotate_left
    · rw [k3 z]
      have he : (es.push { key := u, val := v, born := cl }).toList = es.toList ++ [{ key := u, val := v, born := cl }] := by simp
      rw [he]
      refine ⟨?_, ?_, ?_⟩
      rotate_left
      · intro x hx
        rcases List.mem_append.1 hx with hx | hx
        · exact Nat.lt_succ_of_lt (hm.2.1 _ hx)
        · simp only [List.mem_singleton] at hx; subst hx; exact Nat.lt_succ_self _
      · rw [List.map_append, List.nodup_append]
        refine ⟨hm.2.2, by simp, fun x hx y hy => ?_⟩
        obtain ⟨z, hz, rfl⟩ := List.mem_map.1 hx
        simp only [List.map_cons, List.map_nil, List.mem_singleton] at hy
        subst hy
        exact Nat.ne_of_lt (hm.2.1 _ hz)
      exact All2_app hm.1 (show All2 (fun (p : kk.den × kv.den) (e : MapEntry) => VR G kk p.1 e.key ∧ VR G kv p.2 e.val) [(key, z)] [{ key := u, val := v, born := cl }] from ⟨⟨hu, hv⟩, trivial⟩)
    · unfold Instr.mapUpdate
      rw [run_und hty]
      simp [hgo, hck, hf, run_setM hh]

theorem mapDelete_run {mt kt et rt : TypeId} {kk kv : Kd} {key : kk.den} {u : Value} {r cl : Nat} {es : Array MapEntry} {m : List (kk.den × kv.den)} {d : TypeDesc} {ts : Array TypeId} (ht : ts[0]? = some mt)
    (hty : P.underlying mt = some (.map kt et)) (hd : P.underlying kt = some d) (hk : keyOK kk (some d) = true) (hh : w.heap[r]? = some (.map es cl)) (hm : mapR G kk kv m es.toList cl) (hu : VR G kk key u) :
    ∃ es' cl', (Builtin.delete_ ts rt #[.map (some r), u]).run P w = .ok (.tuple #[]) (setH w r (.map es' cl')) ∧ mapR G kk kv (mapDel kk kv key m) es'.toList cl' := by
  have hck : ∀ b, (Instr.checkKey b 10000 kt u).run P w = .ok () w := fun b => checkKey_ok hd hk hu
  have hgo : (getObj r).run P w = .ok (.map es cl) w := by simp [getObj, Sem.run, hh]
  rcases map_found (i := 0) hk hu hm.1 with ⟨j, e, k1, k2, k3, k4, k5⟩ | ⟨k1, k2, k3⟩
  · have hf : (Instr.findKey kt u es.toList).run P w = .ok (some (j, e.val)) w := by simp [Instr.findKey, underlying, hd, k1]
    refine ⟨es.eraseIdxIfInBounds j, cl, ?_, ?_⟩
    · unfold Builtin.delete_
      simp only [ht, List.getElem?_toArray, List.getElem?_cons_zero, List.getElem?_cons_succ]
      simp [run_und hty, hgo, hck, hf, run_setM hh]
    · rw [k4]
      have he : (es.eraseIdxIfInBounds j).toList = es.toList.eraseIdx j := Array.toList_eraseIdxIfInBounds ..
      rw [he]
      refine ⟨All2_erase (j := j) hm.1, fun x hx => hm.2.1 _ (List.mem_of_mem_eraseIdx hx), ?_⟩
      exact List.Sublist.nodup (List.Sublist.map _ (List.eraseIdx_sublist ..)) hm.2.2
  · have hf : (Instr.findKey kt u es.toList).run P w = .ok none w := by simp [Instr.findKey, underlying, hd, k1]
    refine ⟨es, cl, ?_, by rw [k2]; exact hm⟩
    unfold Builtin.delete_
    simp only [ht, List.getElem?_toArray, List.getElem?_cons_zero, List.getElem?_cons_succ]
    simp [run_und hty, hgo, hck, hf, run_setM hh]

theorem ObjR_setM {w' : World} {t i r : Nat} {es' : Array MapEntry} {cl' : Nat} {mp : MP} (hr2 : ∀ b, b ≠ r → w'.heap[b]? = w.heap[b]?) (hw : w'.heap[r]? = some (.map es' cl')) (hm : mapR G mp.kk mp.kv mp.m es'.toList cl')
    (hfi : ∀ b b' t i f, G.role b = .fld t i f → G.role b' = .fld t i f → b = b') :
    ∀ {fs : List Fk} {x x' : denFs fs} {f g : Nat} {cs : List Value}, G.role r = .fld t i (g + f) → setM fs x f mp = some x' → ObjR w G Ls t i g fs x cs → ObjR w' G Ls t i g fs x' cs
  | [], _, _, _, _, _, _, h, _ => by simp [setM] at h
  | .p k :: fs, x, x', 0, g, cs, hr, h, ho => by simp [setM] at h
  | .own e bt k :: fs, x, x', 0, g, cs, hr, h, ho => by simp [setM] at h
  | .omap kk kv :: fs, x, x', 0, g, cs, hr, h, ho => by
    unfold setM at h
    split at h
    · rename_i hkk
      obtain ⟨k1, k2, m⟩ := mp
      obtain ⟨h1, h2⟩ := hkk
      simp only at h1 h2
      subst h1; subst h2
      simp only [Option.some.injEq] at h; subst h
      obtain ⟨c1, c2, rfl, ⟨r', es, cl, rfl, k1, k2, k3⟩, hrest⟩ := ho
      have : r' = r := hfi _ _ _ _ _ k1 (by simpa using hr)
      subst this
      refine ⟨_, c2, rfl, ⟨_, es', cl', rfl, k1, hw, hm⟩, ?_⟩
      refine ObjR_keep' (r := r') hr2 ?_ hrest
      intro f p hf
      rw [k1]
      exact ⟨by simp; omega, by simp⟩
    · simp at h
  | fk :: fs, x, x', f + 1, g, cs, hr, h, ho => by
    have h' : ∃ y, setM fs x.2 f mp = some y ∧ x' = (x.1, y) := by
      cases fk <;> (unfold setM at h; split at h <;> simp_all)
    obtain ⟨y, hy, rfl⟩ := h'
    obtain ⟨c1, c2, rfl, h1, h2⟩ := ho
    refine ⟨c1, c2, rfl, ?_, ObjR_setM hr2 hw hm hfi (by rw [hr]; congr 1; omega) hy h2⟩
    refine FkR_keep (Gh.le_refl G) (fun b hb => ⟨hr2 b ?_, rfl⟩) h1
    intro he; subst he
    rcases hb with hb | ⟨p, hb⟩ <;> rw [hr] at hb <;> simp at hb
  where
  ObjR_keep' {w' : World} {t i r : Nat} (hr2 : ∀ b, b ≠ r → w'.heap[b]? = w.heap[b]?) : ∀ {fs : List Fk} {x : denFs fs} {g : Nat} {cs : List Value},
      (∀ f p, g < f + 1 + 0 ∧ g ≤ f → G.role r ≠ .fld t i f ∧ G.role r ≠ .grow (.fld t i f) p) → ObjR w G Ls t i g fs x cs → ObjR w' G Ls t i g fs x cs
    | [], _, _, _, _, h => h
    | fk :: fs, x, g, cs, hne, ⟨c1, c2, hc, h1, h2⟩ => by
      refine ⟨c1, c2, hc, ?_, ObjR_keep' hr2 (fun f p hf => hne f p (by omega)) h2⟩
      refine FkR_keep (Gh.le_refl G) (fun b hb => ⟨hr2 b ?_, rfl⟩) h1
      intro he; subst he
      rcases hb with hb | ⟨p, hb⟩
      · exact (hne g [] (by omega)).1 hb
      · exact (hne g p (by omega)).2 hb

/-- The map in an object's field has turned. -/
theorem Holds.mapTurn (h : Holds w G T Ls) {t i f r cl : Nat} {fs : List Fk} {x x' : denFs fs} {mp : MP} {es : Array MapEntry} {o0 : Obj} (hr : G.role r = .fld t i f) (ho : ObAt T t i fs x) (hs : setM fs x f mp = some x') (hT : UpdT T T' t i fs x')
    (hh : w.heap[r]? = some o0) (hm : mapR G mp.kk mp.kv mp.m es.toList cl) : Holds (setH w r (.map es cl)) G T' Ls := by
  obtain ⟨⟨xs, hT1, hT2⟩, hT3⟩ := hT
  obtain ⟨xs0, ho1, ho2⟩ := ho
  rw [hT1] at ho1
  simp only [Option.some.injEq, Tab.mk.injEq, heq_eq_eq, true_and] at ho1
  subst ho1
  have hlt := (List.getElem?_eq_some_iff.1 ho2).1
  refine h.change (fun b => b = r) (Gh.le_refl G) ⟨rfl, rfl, rfl⟩ ?_ (fun b hb => ⟨setH_ne hb, rfl⟩) (fun b hb => by subst hb; unfold BlockOK; rw [hr]; trivial) ?_ ?_ h.nd ?_ h.inj h.finj ?_
  · intro b hb; simp [setH] at hb; exact h.free b hb
  · intro b t' i' hb hb' tab y cs k1 k2 k3
    by_cases hti : t' = t ∧ i' = i
    · obtain ⟨rfl, rfl⟩ := hti
      rw [hT1] at k1
      simp only [Option.some.injEq] at k1; subst k1
      simp only at k2
      rw [ho2] at k2
      simp only [Option.some.injEq] at k2; subst k2
      refine ⟨_, x', hT2, by simp [hlt], ?_⟩
      exact ObjR_setM (r := r) (fun b hb => setH_ne hb) (setH_same hh) hm h.finj (by simpa using hr) hs k3
    · have hk : ObjR (setH w r (.map es cl)) G Ls t' i' 0 tab.fs y cs := by
        refine ObjR_keep (w := w) (Gh.le_refl G) (fun _ => rfl) (fun b2 f2 hb2 => ⟨setH_ne ?_, rfl⟩) k3
        intro he; subst he
        rcases hb2 with hb2 | ⟨p, hb2⟩ <;> rw [hr] at hb2 <;> simp at hb2
        exact hti ⟨hb2.1.symm, hb2.2.1.symm⟩
      by_cases ht : t' = t
      · subst ht
        rw [hT1] at k1
        simp only [Option.some.injEq] at k1; subst k1
        refine ⟨⟨fs, xs.set i x'⟩, y, hT2, ?_, hk⟩
        simp only at k2 ⊢
        rw [List.getElem?_set_ne (fun hi => hti ⟨rfl, hi.symm⟩)]; exact k2
      · exact ⟨tab, y, by rw [hT3 t' ht]; exact k1, k2, hk⟩
  · intro l hl
    refine LSR_keep (w := w) (Gh.le_refl G) (fun b hb => ⟨setH_ne ?_, rfl⟩) (h.loc l hl)
    intro he; subst he
    rcases h.loc_role hl hb with h1 | ⟨p, h1⟩ <;> rw [hr] at h1 <;> simp at h1
  · intro t' tab i' h1 h2
    by_cases ht : t' = t
    · subst ht
      rw [hT2] at h1
      simp only [Option.some.injEq] at h1; subst h1
      exact h.ex _ _ i' hT1 (by simpa using h2)
    · rw [hT3 t' ht] at h1
      exact h.ex t' tab i' h1 h2
  · intro b t' i' f' hb
    obtain ⟨tab, h1, h2⟩ := h.fex b t' i' f' hb
    by_cases ht : t' = t
    · subst ht
      rw [hT1] at h1
      simp only [Option.some.injEq] at h1; subst h1
      exact ⟨_, hT2, by simpa using h2⟩
    · exact ⟨tab, by rw [hT3 t' ht]; exact h1, h2⟩

theorem fm_at (h : Holds w G T Ls) {t i f : Nat} {fs : List Fk} {x : denFs fs} {mp : MP} {v : Value} (hv : EnR G (.fm t i f) v) (ho : ObAt T t i fs x) (hm : mapO fs x f = some mp) :
    ∃ r es cl, v = .map (some r) ∧ G.role r = .fld t i f ∧ w.heap[r]? = some (.map es cl) ∧ mapR G mp.kk mp.kv mp.m es.toList cl := by
  obtain ⟨r, rfl, hr⟩ := hv
  obtain ⟨xs, h1, h2⟩ := ho
  obtain ⟨b, hb⟩ := h.ex t _ i h1 (List.getElem?_eq_some_iff.1 h2).1
  obtain ⟨ce, ty, hh, hob⟩ := h.at hb ⟨xs, h1, h2⟩
  obtain ⟨r', es, cl, k1, k2, k3⟩ := mapO_ok hm hob
  rw [Nat.zero_add] at k1
  have := h.finj r r' t i f hr k1
  subst this
  exact ⟨r, es, cl, rfl, hr, k2, k3⟩

/-- An update of a map: which, key, value. -/
def mupE (P : Program) (ops : Array Oper) (E : Env) (i : Nat) (kk kv : Kd) : Option (En × kk.den × kv.den) :=
  match ops[i]? with
  | some o => (match goes ops (look E []) o, o.dst, o.op with
    | true, none, .mapUpdate mt m k x => (match P.underlying mt with
      | some (.map kt et) => (match keyOK kk (P.underlying kt) with
        | true => (match opnd (look E []) [] m, opnd (look E []) [] k, opnd (look E []) [] x with
          | some em, some ek, some ex => (match coeK kk ek, coeK kv ex with
            | some key, some z => some (em, key, z)
            | _, _ => none)
          | _, _, _ => none)
        | false => none)
      | _ => none)
    | _, _, _ => none)
  | none => none

theorem stepMUp (kk kv : Kd) (key : kk.den) (z : kv.den) {t j f : Nat} {m : List (kk.den × kv.den)} {fs : List Fk} {x x' : denFs fs} {i : Nat} (hE : EnvR G N a E) (hH : Holds w G T Ls) (hb : mupE P ops E i kk kv = some (.fm t j f, key, z))
    (ho : ObAt T t j fs x) (hm : mapO fs x f = some ⟨kk, kv, m⟩) (hset : setM fs x f ⟨kk, kv, mapSet kk kv key z m⟩ = some x') (hT : UpdT T T' t j fs x')
    (k : ∀ w' G', G.le G' → EnvR G' N a E → Holds w' G' T' Ls → wpFrom P ops Q (i + 1) a w') : wpFrom P ops Q i a w := by
  unfold mupE at hb
  split at hb
  · rename_i o hop
    split at hb
    · rename_i mt m0 k0 x0 hg hdst hop'
      split at hb
      · rename_i kt et hty
        split at hb
        · rename_i hk
          split at hb
          · rename_i em ek ex hem hek hex
            split at hb
            · rename_i key' z' hkey hz
              simp only [Option.some.injEq, Prod.mk.injEq] at hb
              obtain ⟨rfl, rfl, rfl⟩ := hb
              have v1 := opnd_ok (CurR_start hE) (by simp) hem
              have v2 := coeK_ok hkey (opnd_ok (CurR_start hE) (by simp) hek)
              have v3 := coeK_ok hz (opnd_ok (CurR_start hE) (by simp) hex)
              obtain ⟨r, es, cl, hv, hr, hh, hmm⟩ := fm_at hH v1 ho hm
              cases hd : P.underlying kt with
              | none => rw [hd] at hk; cases kk <;> simp [keyOK] at hk
              | some d =>
                rw [hd] at hk
                obtain ⟨es', cl', hrun, hm'⟩ := mapUpdate_run (P := P) hty hd hk hh hmm v2 v3
                refine stepS (G := G) hop hg hdst hE ⟨setH w r (.map es' cl'), G, ?_, Gh.le_refl G, hH.mapTurn hr ho hset hT hh hm'⟩ k
                simp only [execOp, hop', hv]; exact run_unit hrun
            · simp at hb
          · simp at hb
        · simp at hb
      · simp at hb
    · simp at hb
  · simp at hb

/-- A delete: which, key. -/
def mdelE (P : Program) (ops : Array Oper) (E : Env) (i : Nat) (kk : Kd) : Option (En × kk.den × Option Nat) :=
  match ops[i]? with
  | some o => (match goes ops (look E []) o, o.op with
    | true, .call c => (match c.callee, c.args.toList, c.argTypes.toList with
      | .builtin .delete, [m, k], mt :: _ => (match P.underlying mt with
        | some (.map kt et) => (match keyOK kk (P.underlying kt) with
          | true => (match opnd (look E []) [] m, opnd (look E []) [] k with
            | some em, some ek => (match coeK kk ek with
              | some key => some (em, key, o.dst)
              | none => none)
            | _, _ => none)
          | false => none)
        | _ => none)
      | _, _, _ => none)
    | _, _ => none)
  | none => none

theorem stepMDel (kk kv : Kd) (key : kk.den) {t j f : Nat} {d : Option Nat} {m : List (kk.den × kv.den)} {fs : List Fk} {x x' : denFs fs} {i : Nat} (hE : EnvR G N a E) (hH : Holds w G T Ls) (hb : mdelE P ops E i kk = some (.fm t j f, key, d)) (hd : dstOK d N = true)
    (ho : ObAt T t j fs x) (hm : mapO fs x f = some ⟨kk, kv, m⟩) (hset : setM fs x f ⟨kk, kv, mapDel kk kv key m⟩ = some x') (hT : UpdT T T' t j fs x')
    (k : ∀ a' w' G', G.le G' → EnvR G' N a' (putE d (.tup []) E) → Holds w' G' T' Ls → wpFrom P ops Q (i + 1) a' w') : wpFrom P ops Q i a w := by
  unfold mdelE at hb
  split at hb
  · rename_i o hop
    split at hb
    · rename_i c hg hop'
      split at hb
      · rename_i m0 k0 mt ts hcal hargs hts
        split at hb
        · rename_i kt et hty
          split at hb
          · rename_i hk
            split at hb
            · rename_i em ek hem hek
              split at hb
              · rename_i key' hkey
                simp only [Option.some.injEq, Prod.mk.injEq] at hb
                obtain ⟨rfl, rfl, rfl⟩ := hb
                have v1 := opnd_ok (CurR_start hE) (by simp) hem
                have v2 := coeK_ok hkey (opnd_ok (CurR_start hE) (by simp) hek)
                obtain ⟨r, es, cl, hv, hr, hh, hmm⟩ := fm_at hH v1 ho hm
                cases hdd : P.underlying kt with
                | none => rw [hdd] at hk; cases kk <;> simp [keyOK] at hk
                | some dd =>
                  rw [hdd] at hk
                  have ht0 : c.argTypes[0]? = some mt := by
                    rw [← Array.getElem?_toList, hts]; rfl
                  obtain ⟨es', cl', hrun, hm'⟩ := mapDelete_run (P := P) (rt := o.type) ht0 hty hdd hk hh hmm v2
                  refine wpFrom_value hop (goes_ok (CurR_start hE) hg) (v := .tuple #[]) (w' := setH w r (.map es' cl')) ?_ (k _ _ G (Gh.le_refl G) (hE.putO hd ⟨#[], rfl, trivial⟩) (hH.mapTurn hr ho hset hT hh hm'))
                  have hargs' : c.args = #[m0, k0] := by apply Array.ext'; simpa using hargs
                  simp only [execOp, hop', resolve, hcal, invoke, builtin, hargs', List.map_toArray, List.map_cons, List.map_nil, hv, Sem.run_bind, Sem.run_pure, Result.andThen_ok, hrun]
              · simp at hb
            · simp at hb
          · simp at hb
        · simp at hb
      · simp at hb
    · simp at hb
  · simp at hb
end
end Go.Proofs.Ytlfemhkabjafeaa.M

/- Own library, part 15: values that are built, and stores, where the order is open. -/
set_option linter.unusedVariables false
set_option linter.unusedSimpArgs false
namespace Go.Proofs.Ytlfemhkabjafeaa.M

section
variable {P : Program} {w : World} {G : Gh} {T : Tabs} {Ls : List LS} {a : Act} {N : Nat} {E : Env} {ops : Array Oper} {Q : Exit → Act → World → Prop} {D : List En} {loud : List Nat} {G0 : Gh} {Tk : Nat → Tabs} {Lk : Nat → List LS}

theorem obB {i k : Nat} (K : Kd) (x : K.den) {d : Option Nat} (hK : K.agg = true) (hl : loud.contains i = false) (hb : buildE P ops (envI ops E D i) i K = some (x, d)) (hD : En.kv K x = D.getD i .undef) : OpOb P ops Q N E D loud G0 Tk Lk i k := by
  intro a w G hle hE hH
  obtain ⟨o, v, h1, h2, h3, h4, h5⟩ := buildE_run (P := P) (w := w) K x hK hE hb
  unfold wpOp
  rw [h1]
  have hd : dstOf ops i = o.dst := by unfold dstOf; rw [h1]; rfl
  simp only [hl, Bool.false_eq_true, if_false]
  rw [if_pos (goes_ok (CurR_start hE) h2)]
  refine .inl ?_
  unfold Oper.wp
  rw [h4]
  exact ⟨v, G, by rw [hd], Gh.le_refl G, by rw [← hD]; exact h5, hH⟩

theorem obBS {i k : Nat} (K : Kd) (xs : List K.den) {d : Option Nat} (hl : loud.contains i = false) (hb : buildSE P ops (envI ops E D i) i K = some (xs, d)) (hD : En.pl K xs = D.getD i .undef) : OpOb P ops Q N E D loud G0 Tk Lk i k := by
  intro a w G hle hE hH
  obtain ⟨o, v, w', G', h1, h2, h3, h4, h5, h6, h7, _⟩ := buildSE_run (P := P) K xs hE hH hb
  unfold wpOp
  rw [h1]
  have hd : dstOf ops i = o.dst := by unfold dstOf; rw [h1]; rfl
  simp only [hl, Bool.false_eq_true, if_false]
  rw [if_pos (goes_ok (CurR_start hE) h2)]
  refine .inl ?_
  unfold Oper.wp
  rw [h4]
  exact ⟨v, G', by rw [hd], h5, by rw [← hD]; exact h6, h7⟩

theorem obSt {i k : Nat} (K : Kd) (z : K.den) {t j off : Nat} {fs : List Fk} {x x' : denFs fs} (hl : loud.contains i = true) (hb : storeE P ops (envI ops E D i) i K = some (.fldA t j off, z))
    (ho : ObAt (Tk k) t j fs x) (hset : setF fs x off K z = some x') (hT : UpdT (Tk k) (Tk (k + 1)) t j fs x') (hLk : Lk (k + 1) = Lk k) (hD : D.getD i .undef = .undef) : OpOb P ops Q N E D loud G0 Tk Lk i k := by
  intro a w G hle hE hH
  obtain ⟨o, t', x0, y0, ho', hg, hop, hdst, h1, h2, h3⟩ := storeE_ok hE hb
  obtain ⟨w', hr, hH'⟩ := store_obj (P := P) hH h1 h2 h3 ho hset hT
  have hr' : (execOp a.eval o).run P w = .ok .skip w' := by simp only [execOp, hop]; exact run_unit hr
  unfold wpOp
  rw [ho']
  have hd : dstOf ops i = o.dst := by unfold dstOf; rw [ho']; rfl
  simp only [hl, if_true]
  rw [if_pos (goes_ok (CurR_start hE) hg)]
  refine .inl ?_
  unfold Oper.wp
  rw [hr', Oper.upon_skip, hdst]
  exact ⟨Go.undef, G, by rw [hd, hdst], Gh.le_refl G, by rw [hD]; rfl, by rw [hLk]; exact hH'⟩
end
end Go.Proofs.Ytlfemhkabjafeaa.M

/- Own library, part 16: new maps, and new objects that hold one. -/
set_option linter.unusedVariables false
set_option linter.unusedSimpArgs false
namespace Go.Proofs.Ytlfemhkabjafeaa.M

section
variable {P : Program} {w : World} {G : Gh} {T T' : Tabs} {Ls : List LS} {a : Act} {N : Nat} {E : Env} {ops : Array Oper} {Q : Exit → Act → World → Prop}

theorem Holds.newMap (h : Holds w G T Ls) (kk kv : Kd) : Holds (w.alloc (.map #[] 0)) (G.set w.heap.size .loc) T (.mp w.heap.size kk kv [] :: Ls) :=
  h.allocLoc _ .loc _ (.inl rfl) (by unfold BlockOK; rw [Gh.set_same]; trivial) ⟨Gh.set_same _ _ _, #[], 0, heap_alloc_new' w _, trivial, fun _ h => by simp at h, by simp⟩ rfl (fun _ _ _ => rfl)

def mkMapE (ops : Array Oper) (E : Env) (i : Nat) : Option (Option Nat) :=
  match ops[i]? with
  | some o => (match goes ops (look E []) o, o.op with
    | true, .makeMap _ none => some o.dst
    | _, _ => none)
  | none => none

theorem stepMakeMap (kk kv : Kd) {d : Option Nat} {i : Nat} (hE : EnvR G N a E) (hH : Holds w G T Ls) (hb : mkMapE ops E i = some d) (hd : dstOK d N = true)
    (k : ∀ r a' w' G', G.le G' → EnvR G' N a' (putE d (.val (.map (some r))) E) → Holds w' G' T (.mp r kk kv [] :: Ls) → wpFrom P ops Q (i + 1) a' w') : wpFrom P ops Q i a w := by
  unfold mkMapE at hb
  split at hb
  · rename_i o ho
    split at hb
    · rename_i mt hg hop
      simp only [Option.some.injEq] at hb
      subst hb
      refine wpFrom_value ho (goes_ok (CurR_start hE) hg) (v := .map (some w.heap.size)) (w' := w.alloc (.map #[] 0)) ?_ (k _ _ _ _ (Gh.le_new hH _) ((hE.mono (Gh.le_new hH .loc)).putO hd rfl) (hH.newMap kk kv))
      simp only [execOp, hop]
      exact run_val (by simp [Instr.makeMap, newObj, Sem.run])
    · simp at hb
  · simp at hb

/-! ### Struct values that are known exactly -/
def exactV : En → Option Value
  | .val v => some v
  | .kv (.int k) n => some (.int k n)
  | .kv .bool b => some (.bool b)
  | .kv .str s => some (.string ⟨List.toArray s⟩)
  | .kv (.ptr _) none => some (.pointer none)
  | .kv (.list _) [] => none
  | _ => none

theorem exactV_ok {e : En} {u v : Value} (h : exactV e = some u) (he : EnR G e v) : v = u := by
  unfold exactV at h
  split at h
  · simp only [Option.some.injEq] at h; subst h; exact he
  · simp only [Option.some.injEq] at h; subst h; exact (VR_int (G := G)).1 he
  · simp only [Option.some.injEq] at h; subst h; exact (VR_bool (G := G)).1 he
  · simp only [Option.some.injEq] at h; subst h; exact (VR_str (G := G)).1 he
  · simp only [Option.some.injEq] at h; subst h
    obtain ⟨u, rfl, hu⟩ := VR_ptr.1 he
    simp only [ptrR] at hu; rw [hu]
  · simp at h
  · simp at h

def partsV (look : Nat → Option En) : List (Nat × Operand) → Option (List (Nat × Value))
  | [] => some []
  | (i, x) :: r => (match opnd look [] x with
    | some e => (match exactV e with
      | some v => (match partsV look r with
        | some l => some ((i, v) :: l)
        | none => none)
      | none => none)
    | none => none)

theorem partsV_ok {L : Nat → Option En} (hL : CurR G a L) : ∀ {xs : List (Nat × Operand)} {l : List (Nat × Value)}, partsV L xs = some l → xs.map (fun p => (p.1, a.eval p.2)) = l
  | [], l, h => by simp [partsV] at h; subst h; rfl
  | (i, x) :: r, l, h => by
    unfold partsV at h
    split at h
    · rename_i e he
      split at h
      · rename_i v hv
        split at h
        · rename_i l' hl
          simp only [Option.some.injEq] at h; subst h
          simp only [List.map_cons, partsV_ok hL hl]
          rw [exactV_ok hv (opnd_ok hL (by simp) he)]
        · simp at h
      · simp at h
    · simp at h

def buildVE (P : Program) (ops : Array Oper) (E : Env) (i : Nat) : Option (Value × Option Nat) :=
  match ops[i]? with
  | some o => (match goes ops (look E []) o, o.op with
    | true, .build t parts => (match partsV (look E []) parts.toList with
      | some l => (match P.built t l with
        | some cells => some (.agg cells, o.dst)
        | none => none)
      | none => none)
    | _, _ => none)
  | none => none

theorem stepBuildV (v : Value) {d : Option Nat} {i : Nat} (hE : EnvR G N a E) (hb : buildVE P ops E i = some (v, d)) (hd : dstOK d N = true)
    (k : ∀ a', EnvR G N a' (putE d (.val v) E) → wpFrom P ops Q (i + 1) a' w) : wpFrom P ops Q i a w := by
  unfold buildVE at hb
  split at hb
  · rename_i o ho
    split at hb
    · rename_i t parts hg hop
      split at hb
      · rename_i l hl
        split at hb
        · rename_i cells hc
          simp only [Option.some.injEq, Prod.mk.injEq] at hb
          obtain ⟨rfl, rfl⟩ := hb
          refine wpFrom_value ho (goes_ok (CurR_start hE) hg) (v := .agg cells) (w' := w) ?_ (k _ (hE.putO hd rfl))
          simp only [execOp, hop]
          refine run_val (run_build w t _ _ ?_)
          rw [Array.toList_map, partsV_ok (CurR_start hE) hl]
          exact hc
        · simp at hb
      · simp at hb
    · simp at hb
  · simp at hb

theorem Holds.newObjM {r : Nat} {kk kv : Kd} {m : List (kk.den × kv.den)} (h : Holds w G T (.mp r kk kv m :: Ls)) {t i f : Nat} {fs : List Fk} {x : denFs fs} (hT : AddT T T' t i fs x) {cs : Array Value} (e : TypeId)
    (hob : ∀ (w2 : World) (G2 : Gh), G2.role r = .fld t i f → (∃ es cl, w2.heap[r]? = some (.map es cl) ∧ mapR G2 kk kv m es.toList cl) → ObjR w2 G2 Ls t i 0 fs x cs.toList) :
    G.le ((G.set w.heap.size (.obj t i)).set r (.fld t i f)) ∧ Holds (w.alloc (.cells cs e)) ((G.set w.heap.size (.obj t i)).set r (.fld t i f)) T' Ls := by
  obtain ⟨hr, es, cl, hes, hm⟩ := h.loc _ List.mem_cons_self
  have hrlt : r < w.heap.size := h.lt (by rw [hr]; simp)
  obtain ⟨xs, h1, h2, h3, h4⟩ := hT
  subst h3
  have hno : ∀ b, G.role b ≠ .obj t xs.length := by
    intro b hb
    have := h.block b
    unfold BlockOK at this
    rw [hb] at this
    obtain ⟨tab, y, ce, ty, k1, k2, _⟩ := this
    rw [h1] at k1
    simp only [Option.some.injEq] at k1; subst k1
    simp at k2
  have hnf : ∀ b f', G.role b ≠ .fld t xs.length f' := by
    intro b f' hb
    obtain ⟨tab, k1, k2⟩ := h.fex b _ _ _ hb
    rw [h1] at k1
    simp only [Option.some.injEq] at k1; subst k1
    simp at k2
  have hle1 : G.le (G.set w.heap.size (.obj t xs.length)) := Gh.le_new h _
  have hle : G.le ((G.set w.heap.size (.obj t xs.length)).set r (.fld t xs.length f)) := by
    refine Gh.le_trans hle1 (Gh.le_set ?_)
    rw [Gh.set_ne _ _ (by omega), hr]
    trivial
  have hrole : ∀ b, b ≠ w.heap.size → b ≠ r → ((G.set w.heap.size (.obj t xs.length)).set r (.fld t xs.length f)).role b = G.role b := fun b k1 k2 => by rw [Gh.set_ne _ _ k2, Gh.set_ne _ _ k1]
  have hnew : ((G.set w.heap.size (.obj t xs.length)).set r (.fld t xs.length f)).role w.heap.size = .obj t xs.length := by rw [Gh.set_ne _ _ (by omega), Gh.set_same]
  have hrr : ((G.set w.heap.size (.obj t xs.length)).set r (.fld t xs.length f)).role r = .fld t xs.length f := Gh.set_same _ _ _
  have hnr : r ∉ Ls.filterMap LS.blk := by
    have := h.nd
    rw [List.filterMap_cons_some (show LS.blk (.mp r kk kv m) = some r from rfl)] at this
    exact (List.nodup_cons.1 this).1
  refine ⟨hle, h.change (fun b => b = w.heap.size ∨ b = r) hle ⟨rfl, rfl, rfl⟩ ?_ ?_ ?_ ?_ ?_ ?_ ?_ ?_ ?_ ?_⟩
  · intro b hb
    simp at hb
    rw [hrole b (by omega) (by omega)]
    exact h.free b (by omega)
  · intro b hb
    exact ⟨heap_alloc_ne w _ (fun he => hb (.inl he)), hrole b (fun he => hb (.inl he)) (fun he => hb (.inr he))⟩
  · intro b hb
    rcases hb with rfl | rfl
    · unfold BlockOK
      rw [hnew]
      refine ⟨_, x, cs, e, h2, by simp, heap_alloc_new' w _, hob _ _ hrr ⟨es, cl, ?_, mapR_mono hle hm⟩⟩
      rw [heap_alloc_ne w _ (by omega)]; exact hes
    · unfold BlockOK; rw [hrr]; trivial
  · intro b t' i' hb hb' tab y cs' k1 k2 k3
    have hk : ObjR (w.alloc (.cells cs e)) ((G.set w.heap.size (.obj t xs.length)).set r (.fld t xs.length f)) Ls t' i' 0 tab.fs y cs' := by
      refine ObjR_keep hle (fun f2 => (holeAt_cons (fun _ _ _ => rfl) _ _ _ _).symm) (fun b2 f2 hb2 => ?_) k3
      have n1 : b2 ≠ w.heap.size := fun he => by
        have := h.free b2 (by omega)
        rcases hb2 with hb2 | ⟨p, hb2⟩ <;> rw [this] at hb2 <;> simp at hb2
      have n2 : b2 ≠ r := fun he => by
        subst he
        rcases hb2 with hb2 | ⟨p, hb2⟩ <;> rw [hr] at hb2 <;> simp at hb2
      exact ⟨heap_alloc_ne w _ n1, hrole b2 n1 n2⟩
    by_cases ht : t' = t
    · subst ht
      rw [h1] at k1
      simp only [Option.some.injEq] at k1; subst k1
      refine ⟨⟨fs, xs ++ [x]⟩, y, h2, ?_, hk⟩
      simp only at k2 ⊢
      rw [List.getElem?_append_left (List.getElem?_eq_some_iff.1 k2).1]; exact k2
    · exact ⟨tab, y, by rw [h4 t' ht]; exact k1, k2, hk⟩
  · intro l hl
    refine LSR_keep hle (fun b hb => ?_) (h.loc l (List.mem_cons_of_mem _ hl))
    have n1 : b ≠ w.heap.size := by
      have := h.blk_lt (List.mem_cons_of_mem _ hl) hb
      omega
    have n2 : b ≠ r := fun he => by
      subst he
      exact hnr (List.mem_filterMap.2 ⟨l, hl, hb⟩)
    exact ⟨heap_alloc_ne w _ n1, hrole b n1 n2⟩
  · have := h.nd
    rw [List.filterMap_cons_some (show LS.blk (.mp r kk kv m) = some r from rfl)] at this
    exact (List.nodup_cons.1 this).2
  · intro t' tab i' k1 k2
    have keep : ∀ b, G.role b = .obj t' i' → ((G.set w.heap.size (.obj t xs.length)).set r (.fld t xs.length f)).role b = .obj t' i' := fun b hb => by
      rw [hrole b (fun he => by rw [h.free b (by omega)] at hb; simp at hb) (fun he => by subst he; rw [hr] at hb; simp at hb)]; exact hb
    by_cases ht : t' = t
    · subst ht
      rw [h2] at k1
      simp only [Option.some.injEq] at k1; subst k1
      simp only [List.length_append, List.length_cons, List.length_nil] at k2
      rcases Nat.lt_or_ge i' xs.length with k3 | k3
      · obtain ⟨b, hb⟩ := h.ex _ _ i' h1 k3
        exact ⟨b, keep b hb⟩
      · exact ⟨w.heap.size, by rw [hnew, show i' = xs.length by omega]⟩
    · rw [h4 _ ht] at k1
      obtain ⟨b, hb⟩ := h.ex _ _ i' k1 k2
      exact ⟨b, keep b hb⟩
  · intro b b' t' i' k1 k2
    by_cases c1 : b = r
    · subst c1; rw [hrr] at k1; simp at k1
    · by_cases c2 : b' = r
      · subst c2; rw [hrr] at k2; simp at k2
      · by_cases d1 : b = w.heap.size
        · by_cases d2 : b' = w.heap.size
          · rw [d1, d2]
          · subst d1
            rw [hnew] at k1
            simp only [Role.obj.injEq] at k1
            rw [hrole b' d2 c2, ← k1.1, ← k1.2] at k2
            exact (hno _ k2).elim
        · by_cases d2 : b' = w.heap.size
          · subst d2
            rw [hnew] at k2
            simp only [Role.obj.injEq] at k2
            rw [hrole b d1 c1, ← k2.1, ← k2.2] at k1
            exact (hno _ k1).elim
          · rw [hrole b d1 c1] at k1
            rw [hrole b' d2 c2] at k2
            exact h.inj _ _ _ _ k1 k2
  · intro b b' t' i' f' k1 k2
    by_cases d1 : b = w.heap.size
    · subst d1; rw [hnew] at k1; simp at k1
    · by_cases d2 : b' = w.heap.size
      · subst d2; rw [hnew] at k2; simp at k2
      · by_cases c1 : b = r
        · by_cases c2 : b' = r
          · rw [c1, c2]
          · subst c1
            rw [hrr] at k1
            simp only [Role.fld.injEq] at k1
            rw [hrole b' d2 c2, ← k1.1, ← k1.2.1] at k2
            exact (hnf _ _ k2).elim
        · by_cases c2 : b' = r
          · subst c2
            rw [hrr] at k2
            simp only [Role.fld.injEq] at k2
            rw [hrole b d1 c1, ← k2.1, ← k2.2.1] at k1
            exact (hnf _ _ k1).elim
          · rw [hrole b d1 c1] at k1
            rw [hrole b' d2 c2] at k2
            exact h.finj _ _ _ _ _ k1 k2
  · intro b t' i' f' k1
    by_cases d1 : b = w.heap.size
    · subst d1; rw [hnew] at k1; simp at k1
    · by_cases c1 : b = r
      · subst c1
        rw [hrr] at k1
        simp only [Role.fld.injEq] at k1
        obtain ⟨rfl, rfl, rfl⟩ := k1
        exact ⟨_, h2, by simp⟩
      · rw [hrole b d1 c1] at k1
        obtain ⟨tab, k2, k3⟩ := h.fex _ _ _ _ k1
        by_cases ht : t' = t
        · subst ht
          rw [h1] at k2
          simp only [Option.some.injEq] at k2; subst k2
          exact ⟨_, h2, by simp only at k3; simp; omega⟩
        · exact ⟨tab, by rw [h4 _ ht]; exact k2, k3⟩

def boxVE (ops : Array Oper) (E : Env) (i : Nat) : Option (Value × TypeId × Option Nat) :=
  match ops[i]? with
  | some o => (match goes ops (look E []) o, o.op with
    | true, .box e x => (match opnd (look E []) [] x with
      | some (.val v) => some (v, e, o.dst)
      | _ => none)
    | _, _ => none)
  | none => none

/-- An exactly known value, that holds a new map, becomes an object. -/
theorem stepNewM {r : Nat} {kk kv : Kd} {m : List (kk.den × kv.den)} (v : Value) {t j f : Nat} {fs : List Fk} {x : denFs fs} {e : TypeId} {d : Option Nat} {i : Nat} (hE : EnvR G N a E) (hH : Holds w G T (.mp r kk kv m :: Ls)) (hb : boxVE ops E i = some (v, e, d)) (hd : dstOK d N = true)
    (hob : ∀ (w2 : World) (G2 : Gh), G2.role r = .fld t j f → (∃ es cl, w2.heap[r]? = some (.map es cl) ∧ mapR G2 kk kv m es.toList cl) → ObjR w2 G2 Ls t j 0 fs x v.cells.toList) (hT : AddT T T' t j fs x)
    (k : ∀ a' w' G', G.le G' → EnvR G' N a' (putE d (.fldA t j 0) E) → Holds w' G' T' Ls → wpFrom P ops Q (i + 1) a' w') : wpFrom P ops Q i a w := by
  unfold boxVE at hb
  split at hb
  · rename_i o ho
    split at hb
    · rename_i e' x0 hg hop
      split at hb
      · rename_i v' hy
        simp only [Option.some.injEq, Prod.mk.injEq] at hb
        obtain ⟨rfl, rfl, rfl⟩ := hb
        have hv : a.eval x0 = v' := opnd_ok (CurR_start hE) (by simp) hy
        obtain ⟨hle, hH'⟩ := hH.newObjM (f := f) hT e' hob
        have hrlt : r < w.heap.size := by
          obtain ⟨hr, _⟩ := hH.loc _ List.mem_cons_self
          exact hH.lt (by rw [hr]; simp)
        refine wpFrom_value ho (goes_ok (CurR_start hE) hg) (v := .pointer (some ⟨w.heap.size, 0, none⟩)) (w' := w.alloc (.cells v'.cells e')) ?_
          (k _ _ _ hle ((hE.mono hle).putO hd ⟨w.heap.size, by rw [Gh.set_ne _ _ (by omega), Gh.set_same], rfl⟩) hH')
        simp only [execOp, hop, hv]
        exact run_val (by simp [Instr.box, newVar, newRow])
      · simp at hb
    · simp at hb
  · simp at hb
end
end Go.Proofs.Ytlfemhkabjafeaa.M

/- Own library, part 17: results that lie in memory. -/
set_option linter.unusedVariables false
set_option linter.unusedSimpArgs false
namespace Go.Proofs.Ytlfemhkabjafeaa.M

section
variable {P : Program} {w : World} {G : Gh} {T T' : Tabs} {Ls : List LS} {a : Act} {N : Nat} {E : Env}

theorem ret2c {fn : Func} {t1 t2 ty b : Nat} {k k2 : Kd} {x : k.den} {y : k2.den} {G0 : Gh} {L : List LS} (hr : fn.results = #[.cell t1 ty, .tmp t2]) (hE : EnvR G N a E) (hle : G0.le G) (hH : Holds w G T (.box b k x :: L))
    (h1 : lk E t1 = some (.val (.pointer (some ⟨b, 0, none⟩)))) (hs : sizeT P ty = some k.w) (ha : aggT P ty = some k.agg) (h2 : outE E t2 (.kv k2 y) = some (.kv k2 y)) :
    PostB P fn G0 (.tup [⟨k, x⟩, ⟨k2, y⟩]) T L .ret a w := by
  have hv : a.tmps.getD t1 Go.undef = .pointer (some ⟨b, 0, none⟩) := hE.2.2 _ _ h1
  obtain ⟨_, ce, tb, hh, hk⟩ := hH.loc _ List.mem_cons_self
  have hlen := Kr_len hk
  obtain ⟨v, hrun, hvr⟩ := run_loadAt (P := P) (w := w) (b := b) (off := 0) hs ha hh (by simp at hlen; omega) (by rw [List.drop_zero, List.take_of_length_le (by omega)]; exact hk)
  have hrun' : (loadVar ty ⟨b, 0, none⟩).run P w = .ok v w := by
    simpa [Instr.loadAt, Instr.sureAddr] using hrun
  have hv' : a.tmps[t1]?.getD Go.undef = .pointer (some ⟨b, 0, none⟩) := by rw [← Array.getD_eq_getD_getElem?]; exact hv
  refine ⟨hE.2.1, .tuple #[v, a.tmps.getD t2 Go.undef], by simp [results, hr, hv', asAddr, hrun'], G, hle, ⟨_, rfl, hvr, ?_, trivial⟩, hH.drop (fun _ _ _ => rfl)⟩
  unfold outE at h2
  split at h2
  · rename_i e he; exact coeE_ok h2 (hE.2.2 t2 e he)
  · simp at h2
end
end Go.Proofs.Ytlfemhkabjafeaa.M

/- Own library, part 18: ranging over a map in a field. -/
set_option linter.unusedVariables false
set_option linter.unusedSimpArgs false
namespace Go.Proofs.Ytlfemhkabjafeaa.M

section
variable {P : Program} {w : World} {G : Gh} {T T' : Tabs} {Ls : List LS} {a : Act} {N : Nat} {E : Env} {ops : Array Oper} {Q : Exit → Act → World → Prop}

/-- The iterator's content. -/
abbrev itO (mr cl : Nat) (seen : Array Nat) : Obj := .mapIter (some mr) cl seen cl

theorem Holds.newIter (h : Holds w G T Ls) (o : Obj) : Holds (w.alloc o) (G.set w.heap.size .loc) T (.iter w.heap.size o :: Ls) :=
  h.allocLoc _ .loc _ (.inl rfl) (by unfold BlockOK; rw [Gh.set_same]; trivial) ⟨Gh.set_same _ _ _, heap_alloc_new' w _⟩ rfl (fun _ _ _ => rfl)

/-- The iterator at the head of the own variables turns. -/
theorem Holds.iterTurn {r : Nat} {o : Obj} (h : Holds w G T (.iter r o :: Ls)) (o' : Obj) : Holds (setH w r o') G T (.iter r o' :: Ls) := by
  obtain ⟨hr, hh⟩ := h.loc _ List.mem_cons_self
  have hnr : r ∉ Ls.filterMap LS.blk := by
    have := h.nd
    rw [List.filterMap_cons_some (show LS.blk (.iter r o) = some r from rfl)] at this
    exact (List.nodup_cons.1 this).1
  refine h.change (fun b => b = r) (Gh.le_refl G) ⟨rfl, rfl, rfl⟩ ?_ (fun b hb => ⟨setH_ne hb, rfl⟩) (fun b hb => by subst hb; unfold BlockOK; rw [hr]; trivial) ?_ ?_ ?_ h.ex h.inj h.finj h.fex
  · intro b hb; simp [setH] at hb; exact h.free b hb
  · intro b t i hb hb' tab x cs k1 k2 k3
    refine ⟨tab, x, k1, k2, ObjR_keep (w := w) (Gh.le_refl G) (fun f => ?_) (fun b2 f2 hb2 => ⟨setH_ne ?_, rfl⟩) k3⟩
    · rw [holeAt_cons (fun _ _ _ => rfl), holeAt_cons (fun _ _ _ => rfl)]
    · intro he; subst he
      rcases hb2 with hb2 | ⟨p, hb2⟩ <;> rw [hr] at hb2 <;> simp at hb2
  · intro l hl
    rcases List.mem_cons.1 hl with rfl | hl'
    · exact ⟨hr, setH_same hh⟩
    · refine LSR_keep (w := w) (Gh.le_refl G) (fun b hb => ⟨setH_ne ?_, rfl⟩) (h.loc l (List.mem_cons_of_mem _ hl'))
      intro he; subst he
      exact hnr (List.mem_filterMap.2 ⟨l, hl', hb⟩)
  · have := h.nd
    rw [List.filterMap_cons_some (show LS.blk (.iter r o) = some r from rfl)] at this
    rw [List.filterMap_cons_some (show LS.blk (.iter r o') = some r from rfl)]
    exact this

def rangeE (P : Program) (ops : Array Oper) (E : Env) (i : Nat) : Option (En × Option Nat) :=
  match ops[i]? with
  | some o => (match goes ops (look E []) o, o.op with
    | true, .range ty x => (match P.underlying ty, opnd (look E []) [] x with
      | some (.map _ _), some e => some (e, o.dst)
      | _, _ => none)
    | _, _ => none)
  | none => none

theorem stepRange {kk kv : Kd} {t j f : Nat} {m : List (kk.den × kv.den)} {fs : List Fk} {x : denFs fs} {d : Option Nat} {i : Nat} (hE : EnvR G N a E) (hH : Holds w G T Ls) (hb : rangeE P ops E i = some (.fm t j f, d)) (hd : dstOK d N = true)
    (ho : ObAt T t j fs x) (hm : mapO fs x f = some ⟨kk, kv, m⟩)
    (k : ∀ r mr es cl a' w' G', G.le G' → EnvR G' N a' (putE d (.val (.pointer (some ⟨r, 0, none⟩))) E) → Holds w' G' T (.iter r (itO mr cl #[]) :: Ls) → w'.heap[mr]? = some (.map es cl) → G'.role mr = .fld t j f → mapR G' kk kv m es.toList cl → wpFrom P ops Q (i + 1) a' w') : wpFrom P ops Q i a w := by
  unfold rangeE at hb
  split at hb
  · rename_i o hop
    split at hb
    · rename_i ty x0 hg hop'
      split at hb
      · rename_i kt et e hu hx
        simp only [Option.some.injEq, Prod.mk.injEq] at hb
        obtain ⟨rfl, rfl⟩ := hb
        have hv1 := opnd_ok (CurR_start hE) (by simp) hx
        obtain ⟨mr, es, cl, hv, hr, hh, hmm⟩ := fm_at hH hv1 ho hm
        have hgo : (getObj mr).run P w = .ok (.map es cl) w := by simp [getObj, Sem.run, hh]
        have hlt : mr < w.heap.size := hH.lt (by rw [hr]; simp)
        refine wpFrom_value hop (goes_ok (CurR_start hE) hg) (v := .pointer (some ⟨w.heap.size, 0, none⟩)) (w' := w.alloc (itO mr cl #[])) ?_
          (k w.heap.size mr es cl _ _ _ (Gh.le_new hH .loc) ((hE.mono (Gh.le_new hH .loc)).putO hd rfl) (hH.newIter _) ?_ ?_ (mapR_mono (Gh.le_new hH _) hmm))
        · simp only [execOp, hop', hv]
          refine run_val ?_
          unfold Instr.range
          rw [run_und hu]
          simp [hgo, newObj, Sem.run]
        · rw [heap_alloc_ne w _ (by omega)]; exact hh
        · rw [Gh.set_ne _ _ (by omega)]; exact hr
      · simp at hb
    · simp at hb
  · simp at hb

theorem run_mapNext (n : Nat) (hn : 0 < n) : ∃ c n', (choose (.mapNext n)).run P w = .ok c { w with drawn := n' } ∧ c < n := by
  by_cases h1 : n ≤ 1
  · refine ⟨0, w.drawn, ?_, hn⟩
    simp [choose, Sem.run, Question.forced, h1]
  · refine ⟨(Question.mapNext n).cut (w.tape w.drawn (.mapNext n)), w.drawn + 1, ?_, ?_⟩
    · simp [choose, Sem.run, Question.forced, h1]
    · simp only [Question.cut]
      exact Nat.mod_lt _ hn

theorem mapL_get {G : Gh} {kk kv : Kd} : ∀ {m : List (kk.den × kv.den)} {es : List MapEntry} {i : Nat} {e : MapEntry}, mapL G kk kv m es → es[i]? = some e → ∃ p, m[i]? = some p ∧ VR G kk p.1 e.key ∧ VR G kv p.2 e.val
  | [], [], i, e, _, h => by simp at h
  | p :: m, e0 :: es, 0, e, ⟨h1, h2⟩, h => by
    simp at h; subst h
    exact ⟨p, rfl, h1⟩
  | p :: m, e0 :: es, i + 1, e, ⟨h1, h2⟩, h => by
    obtain ⟨q, k1, k2⟩ := mapL_get h2 (by simpa using h)
    exact ⟨q, by simpa using k1, k2⟩
  | [], _ :: _, _, _, h, _ => h.elim
  | _ :: _, [], _, _, h, _ => h.elim

def nextE (ops : Array Oper) (E : Env) (i : Nat) : Option (En × Option Nat) :=
  match ops[i]? with
  | some o => (match goes ops (look E []) o, o.op with
    | true, .next x false => (match opnd (look E []) [] x with
      | some e => some (e, o.dst)
      | none => none)
    | _, _ => none)
  | none => none

theorem stepNext {kk kv : Kd} {r mr cl : Nat} {es : Array MapEntry} {seen : Array Nat} {m : List (kk.den × kv.den)} {d : Option Nat} {i : Nat} (hE : EnvR G N a E) (hH : Holds w G T (.iter r (itO mr cl seen) :: Ls)) (hh : w.heap[mr]? = some (.map es cl)) (hm : mapR G kk kv m es.toList cl)
    (hb : nextE ops E i = some (.val (.pointer (some ⟨r, 0, none⟩)), d)) (hd : dstOK d N = true)
    (kover : (∀ e ∈ es.toList, e.born ∈ seen.toList) → ∀ a' w', EnvR G N a' (putE d (.tup [⟨.bool, false⟩]) E) → Holds w' G T (.iter r (itO mr cl seen) :: Ls) → wpFrom P ops Q (i + 1) a' w')
    (kgo : ∀ (ix : Nat) (e : MapEntry) (p : kk.den × kv.den), es.toList[ix]? = some e → m[ix]? = some p → e.born ∉ seen.toList → ∀ a' w', EnvR G N a' (putE d (.tup [⟨.bool, true⟩, ⟨kk, p.1⟩, ⟨kv, p.2⟩]) E) → Holds w' G T (.iter r (itO mr cl (seen.push e.born)) :: Ls) → w'.heap[mr]? = some (.map es cl) → wpFrom P ops Q (i + 1) a' w') : wpFrom P ops Q i a w := by
  unfold nextE at hb
  split at hb
  · rename_i o hop
    split at hb
    · rename_i x0 hg hop'
      split at hb
      · rename_i e0 hx
        simp only [Option.some.injEq, Prod.mk.injEq] at hb
        obtain ⟨rfl, rfl⟩ := hb
        have hv : a.eval x0 = .pointer (some ⟨r, 0, none⟩) := opnd_ok (CurR_start hE) (by simp) hx
        obtain ⟨hr, hit⟩ := hH.loc _ List.mem_cons_self
        have hgr : (getObj r).run P w = .ok (itO mr cl seen) w := by simp [getObj, Sem.run, hit]
        have hgm : (getObj mr).run P w = .ok (.map es cl) w := by simp [getObj, Sem.run, hh]
        have hbound : ∀ e ∈ es, e.born < cl := fun e he => hm.2.1 e (by simpa using he)
        -- those that are left
        let left := es.filter fun e => !seen.contains e.born
        have hold : left.filter (·.born < cl) = left := by
          rw [Array.filter_eq_self]
          intro e he
          simp only [decide_eq_true_eq]
          exact hbound e (Array.mem_filter.1 he).1
        have hnew : left.filter (·.born ≥ cl) = #[] := by
          rw [Array.filter_eq_empty_iff]
          intro e he
          simp only [ge_iff_le, decide_eq_true_eq, Nat.not_le]
          exact hbound e (Array.mem_filter.1 he).1
        have hnot : (!seen.isEmpty && !es.isEmpty && es.all (·.born ≥ cl)) = false := by
          by_cases he : es = #[]
          · subst he; simp
          · have : ∃ e, e ∈ es := by
              have h0 : 0 < es.size := by
                rcases Nat.eq_zero_or_pos es.size with h0 | h0
                · exact (he (Array.eq_empty_of_size_eq_zero h0)).elim
                · exact h0
              exact ⟨es[0], by simp⟩
            obtain ⟨e, hme⟩ := this
            have h1 : es.all (·.born ≥ cl) = false := by
              rw [Array.all_eq_false]
              obtain ⟨q, hq, rfl⟩ := Array.mem_iff_getElem.1 hme
              exact ⟨q, hq, by simp; exact hbound _ (by simp)⟩
            rw [h1]; simp
        by_cases hl : left = #[]
        · refine wpFrom_value hop (goes_ok (CurR_start hE) hg) (v := .tuple #[.bool false]) (w' := w) ?_ (kover ?_ _ _ (hE.putO hd ⟨_, rfl, VR_bool.2 rfl, trivial⟩) hH)
          · simp only [execOp, hop', hv]
            refine run_val ?_
            unfold Instr.next
            simp only [Sem.run_bind, hgr, hgm, Result.andThen_ok, hnot, Bool.false_eq_true, if_false]
            simp only [show (es.filter fun e => !seen.contains e.born) = left from rfl, hold, hnew, Array.append_empty]
            rw [hl]
            simp [choose, Sem.run, Question.forced]
          · intro e he
            by_cases hc : e.born ∈ seen.toList
            · exact hc
            · have : e ∈ left := Array.mem_filter.2 ⟨by simpa using he, by simpa using hc⟩
              rw [hl] at this; simp at this
        · have hpos : 0 < left.size := by
            rcases Nat.eq_zero_or_pos left.size with h0 | h0
            · exact (hl (Array.eq_empty_of_size_eq_zero h0)).elim
            · exact h0
          have hemp : left.isEmpty = false := by simp [Array.isEmpty]; omega
          obtain ⟨c, n', hc, hclt⟩ := run_mapNext (P := P) (w := w) left.size hpos
          have hel : left[c] ∈ left := by simp
          obtain ⟨hes, hns⟩ := Array.mem_filter.1 hel
          obtain ⟨ix, hix, hix2⟩ := Array.mem_iff_getElem.1 hes
          have hix3 : es.toList[ix]? = some left[c] := by simp [hix, hix2]
          obtain ⟨p, hp1, hp2, hp3⟩ := mapL_get hm.1 hix3
          have hdr := hH.drawn n'
          have hit' : ({ w with drawn := n' } : World).heap[r]? = some (itO mr cl seen) := hit
          refine wpFrom_value hop (goes_ok (CurR_start hE) hg) (v := .tuple #[.bool true, left[c].key, left[c].val]) (w' := setH { w with drawn := n' } r (itO mr cl (seen.push left[c].born))) ?_
            (kgo ix left[c] p hix3 hp1 (by simpa using hns) _ _ (hE.putO hd ⟨_, rfl, VR_bool.2 rfl, hp2, hp3, trivial⟩) (hdr.iterTurn _) ?_)
          · simp only [execOp, hop', hv]
            refine run_val ?_
            unfold Instr.next
            simp only [Sem.run_bind, hgr, hgm, Result.andThen_ok, hnot, Bool.false_eq_true, if_false]
            simp only [show (es.filter fun e => !seen.contains e.born) = left from rfl, hold, hnew, Array.append_empty]
            simp only [hemp, Bool.false_eq_true, if_false, Array.empty_append, Array.size_map, Sem.run_bind, hc, Result.andThen_ok]
            simp [hclt, setObj, Sem.run, hit, setH]
          · rw [setH_ne (by
              intro he
              subst he
              rw [hit] at hh; simp at hh)]
            exact hh
      · simp at hb
    · simp at hb
  · simp at hb


def entryE (ops : Array Oper) (E : Env) (i : Nat) : Option (En × Option Nat) :=
  match ops[i]? with
  | some o => (match goes ops (look E []) o, o.op with
    | true, .entry x => (match opnd (look E []) [] x with
      | some e => some (e, o.dst)
      | none => none)
    | _, _ => none)
  | none => none

theorem stepEntry {kk kv : Kd} {r mr cl ix : Nat} {es : Array MapEntry} {e : MapEntry} {p : kk.den × kv.den} {seen : Array Nat} {m : List (kk.den × kv.den)} {d : Option Nat} {i : Nat} (hE : EnvR G N a E) (hH : Holds w G T (.iter r (itO mr cl (seen.push e.born)) :: Ls)) (hh : w.heap[mr]? = some (.map es cl)) (hm : mapR G kk kv m es.toList cl)
    (hix : es.toList[ix]? = some e) (hp : m[ix]? = some p) (hb : entryE ops E i = some (.val (.pointer (some ⟨r, 0, none⟩)), d)) (hd : dstOK d N = true)
    (k : ∀ a', EnvR G N a' (putE d (.tup [⟨kk, p.1⟩, ⟨kv, p.2⟩]) E) → wpFrom P ops Q (i + 1) a' w) : wpFrom P ops Q i a w := by
  unfold entryE at hb
  split at hb
  · rename_i o hop
    split at hb
    · rename_i x0 hg hop'
      split at hb
      · rename_i e0 hx
        simp only [Option.some.injEq, Prod.mk.injEq] at hb
        obtain ⟨rfl, rfl⟩ := hb
        have hv : a.eval x0 = .pointer (some ⟨r, 0, none⟩) := opnd_ok (CurR_start hE) (by simp) hx
        obtain ⟨hr, hit⟩ := hH.loc _ List.mem_cons_self
        have hgr : (getObj r).run P w = .ok (itO mr cl (seen.push e.born)) w := by simp [getObj, Sem.run, hit]
        have hgm : (getObj mr).run P w = .ok (.map es cl) w := by simp [getObj, Sem.run, hh]
        obtain ⟨q, hq1, hq2, hq3⟩ := mapL_get hm.1 hix
        rw [hp] at hq1
        simp only [Option.some.injEq] at hq1; subst hq1
        have hfind : es.find? (·.born == e.born) = some e := by
          have hmem : e ∈ es := by
            have := List.mem_of_getElem? hix
            simpa using this
          cases hf : es.find? (·.born == e.born) with
          | none =>
            have := Array.find?_eq_none.1 hf e hmem
            simp at this
          | some e' =>
            have h1 : e'.born = e.born := by simpa using Array.find?_some hf
            have h2 : e' ∈ es.toList := by simpa using Array.mem_of_find?_eq_some hf
            rw [nodup_born hm.2.2 h2 (by simpa using hmem) h1]
        refine wpFrom_value hop (goes_ok (CurR_start hE) hg) (v := .tuple #[e.key, e.val]) (w' := w) ?_ (k _ (hE.putO hd ⟨_, rfl, hq2, hq3, trivial⟩))
        simp only [execOp, hop', hv]
        refine run_val ?_
        unfold Instr.entry
        simp [hgr, hgm, hfind]
      · simp at hb
    · simp at hb
  · simp at hb
  where
  nodup_born : ∀ {es : List MapEntry} {x y : MapEntry}, (es.map (·.born)).Nodup → x ∈ es → y ∈ es → x.born = y.born → x = y
    | [], _, _, _, h, _, _ => by simp at h
    | e :: es, x, y, hn, hx, hy, hb => by
      simp only [List.map_cons, List.nodup_cons] at hn
      rcases List.mem_cons.1 hx with hx' | hx'
      · rcases List.mem_cons.1 hy with hy' | hy'
        · rw [hx', hy']
        · exact (hn.1 (List.mem_map.2 ⟨y, hy', by rw [← hb, hx']⟩)).elim
      · rcases List.mem_cons.1 hy with hy' | hy'
        · exact (hn.1 (List.mem_map.2 ⟨x, hx', by rw [hb, hy']⟩)).elim
        · exact nodup_born hn.2 hx' hy' hb
end

/-! ### What has been gone through -/
structure Gone {kk kv : Kd} (es : List MapEntry) (m : List (kk.den × kv.den)) (seen : List Nat) (done : List (kk.den × kv.den)) : Prop where
  ex : ∃ is : List Nat, is.Nodup ∧ seen = is.map (fun i => (es[i]?.map (·.born)).getD 0) ∧ done = is.filterMap (fun i => m[i]?) ∧ ∀ i ∈ is, i < es.length

theorem Gone.nil {kk kv : Kd} {es : List MapEntry} {m : List (kk.den × kv.den)} : Gone es m [] [] := ⟨[], by simp, rfl, rfl, by simp⟩

theorem Gone.next {kk kv : Kd} {es : List MapEntry} {m done : List (kk.den × kv.den)} {seen : List Nat} (h : Gone es m seen done) {ix : Nat} {e : MapEntry} {p : kk.den × kv.den} (he : es[ix]? = some e) (hp : m[ix]? = some p) (hn : e.born ∉ seen) : Gone es m (seen ++ [e.born]) (done ++ [p]) := by
  obtain ⟨is, h1, rfl, rfl, h4⟩ := h
  refine ⟨is ++ [ix], ?_, by simp [he], by simp [List.filterMap_append, hp], ?_⟩
  · rw [List.nodup_append]
    refine ⟨h1, by simp, fun x hx y hy hxy => ?_⟩
    simp only [List.mem_singleton] at hy
    subst hy; subst hxy
    exact hn (List.mem_map.2 ⟨x, hx, by simp [he]⟩)
  · intro i hi
    rcases List.mem_append.1 hi with hi | hi
    · exact h4 i hi
    · simp only [List.mem_singleton] at hi
      subst hi
      exact (List.getElem?_eq_some_iff.1 he).1

theorem nodup_inj {α : Type} : ∀ {l : List α} {i j : Nat} {x : α}, l.Nodup → l[i]? = some x → l[j]? = some x → i = j
  | [], _, _, _, _, h, _ => by simp at h
  | y :: l, 0, 0, _, _, _, _ => rfl
  | y :: l, 0, j + 1, x, hn, h, k => by
    simp at h; subst h
    exact ((List.nodup_cons.1 hn).1 (List.mem_of_getElem? (by simpa using k))).elim
  | y :: l, i + 1, 0, x, hn, h, k => by
    simp at k; subst k
    exact ((List.nodup_cons.1 hn).1 (List.mem_of_getElem? (by simpa using h))).elim
  | y :: l, i + 1, j + 1, x, hn, h, k => by
    have := nodup_inj (i := i) (j := j) (x := x) (List.nodup_cons.1 hn).2 (by simpa using h) (by simpa using k)
    rw [this]

theorem Gone.all {kk kv : Kd} {es : List MapEntry} {m done : List (kk.den × kv.den)} {seen : List Nat} (h : Gone es m seen done) (hlen : m.length = es.length) (hb : (es.map (·.born)).Nodup) (hall : ∀ e ∈ es, e.born ∈ seen) : done.Perm m := by
  obtain ⟨is, h1, rfl, rfl, h4⟩ := h
  have hin : ∀ i, i < es.length → i ∈ is := by
    intro i hi
    obtain ⟨j, hj, hjb⟩ := List.mem_map.1 (hall es[i] (by simp))
    have hjl := h4 j hj
    have h5 : es[j].born = es[i].born := by simpa [hjl] using hjb
    have : j = i := nodup_inj hb (x := es[i].born) (by simp [hjl, h5]) (by simp [hi])
    rw [← this]; exact hj
  have hperm : is.Perm (List.range es.length) := by
    rw [List.perm_ext_iff_of_nodup h1 List.nodup_range]
    intro i
    exact ⟨fun hi => by simpa using h4 i hi, fun hi => hin i (by simpa using hi)⟩
  have : (List.range es.length).filterMap (fun i => m[i]?) = m := by
    rw [← hlen]
    exact range_get m
  have h6 := hperm.filterMap (fun i => m[i]?)
  rw [this] at h6
  exact h6
  where
  range_get {α : Type} (m : List α) : (List.range m.length).filterMap (fun i => m[i]?) = m := by
    induction m with
    | nil => rfl
    | cons x m ih =>
      rw [List.length_cons, List.range_succ_eq_map]
      simp only [List.filterMap_cons, List.getElem?_cons_zero, List.filterMap_map]
      congr 1
end Go.Proofs.Ytlfemhkabjafeaa.M

/- Own library, part 19: lists that grow and are seen by nobody yet; they may be sorted in place, and published then. -/
set_option linter.unusedVariables false
set_option linter.unusedSimpArgs false
namespace Go.Proofs.Ytlfemhkabjafeaa.M

section
variable {P : Program} {w : World} {G : Gh} {T T' : Tabs} {Ls : List LS} {a : Act} {N : Nat} {E : Env} {ops : Array Oper} {Q : Exit → Act → World → Prop}

theorem Holds.nilRaw (h : Holds w G T Ls) (e bt : Nat) (K : Kd) : Holds w G T (.raw (.slice none 0 0) e bt K [] :: Ls) := by
  refine h.change (fun _ => False) (Gh.le_refl G) ⟨rfl, rfl, rfl⟩ h.free (fun b _ => ⟨rfl, rfl⟩) (fun _ hb => hb.elim) ?_ ?_ h.nd h.ex h.inj h.finj h.fex
  · intro b t i _ _ tab x cs h1 h2 h3
    exact ⟨tab, x, h1, h2, ObjR_keep (w := w) (L := Ls) (Gh.le_refl G) (fun f => holeAt_cons (fun _ _ _ => rfl) _ _ _ _) (fun _ _ _ => ⟨rfl, rfl⟩) h3⟩
  · intro l hl
    rcases List.mem_cons.1 hl with rfl | h1
    · exact ⟨[], World.ownsRow_nil w 0 e K.w, trivial, trivial, fun b hb => by simp [Value.ownBlock] at hb⟩
    · exact h.loc l h1

/-- An unseen list turns: in its own block, or into a new one. -/
theorem Holds.rawTurn (h : Holds w G T Ls) {w' : World} {j : Nat} {v v' : Value} {e bt : Nat} {K : Kd} {xs zs : List K.den} {cs : List Value} (hj : Ls[j]? = some (.raw v e bt K xs))
    (hrole : ∀ b, v.ownBlock = some b → G.role b = .loc)
    (hown : w'.ownsRow 0 e K.w v' zs.length cs) (hrr : rowR (Kr G K) K.w zs cs) (hcap : capOK v' bt)
    (henv : w'.os = w.os ∧ w'.tape = w.tape ∧ w'.output = w.output)
    (hv' : (v'.ownBlock = v.ownBlock ∧ w'.heap.size = w.heap.size ∧ ∀ b, v.ownBlock ≠ some b → w'.heap[b]? = w.heap[b]?) ∨
      (v'.ownBlock = some w.heap.size ∧ w'.heap.size = w.heap.size + 1 ∧ ∀ b, b ≠ w.heap.size → w'.heap[b]? = w.heap[b]?)) :
    ∃ G', G.le G' ∧ Holds w' G' T (Ls.set j (.raw v' e bt K zs)) ∧ ∀ b, G.role b ≠ .free → G'.role b = G.role b := by
  rcases hv' with ⟨h1, h2, h3⟩ | ⟨h1, h2, h3⟩
  · refine ⟨G, Gh.le_refl G, ?_, fun _ _ => rfl⟩
    have hno : ∀ b, G.role b ≠ .loc → v.ownBlock ≠ some b := fun b hb he => hb (hrole b he)
    refine h.change (fun b => v.ownBlock = some b) (Gh.le_refl G) henv (fun b hb => h.free b (by omega)) (fun b hb => ⟨h3 b hb, rfl⟩) (fun b hb => by unfold BlockOK; rw [hrole b hb]; trivial) ?_ ?_ ?_ h.ex h.inj h.finj h.fex
    · intro b t i _ _ tab x cs' k1 k2 k3
      refine ⟨tab, x, k1, k2, ObjR_keep (w := w) (L := Ls) (Gh.le_refl G) (holeAt_set hj (fun _ _ _ => rfl) (fun _ _ _ => rfl) t i) (fun b f hb => ⟨h3 b (hno b ?_), rfl⟩) k3⟩
      rcases hb with hb | ⟨p, hb⟩ <;> rw [hb] <;> simp
    · have ho : LSR w' G (.raw v' e bt K zs) := ⟨cs, hown, hrr, hcap, fun b hb => hrole b (by rw [← h1]; exact hb)⟩
      intro l hl
      cases hb : v.ownBlock with
      | none =>
        rw [hb] at h3
        rcases List.mem_or_eq_of_mem_set hl with hl | rfl
        · exact LSR_keep (Gh.le_refl G) (fun b _ => ⟨h3 b (by simp), rfl⟩) (h.loc l hl)
        · exact ho
      | some g =>
        rw [hb] at h3
        rcases mem_set_other hj hb h.nd hl with rfl | ⟨hl, hne⟩
        · exact ho
        · exact LSR_keep (Gh.le_refl G) (fun b hb' => ⟨h3 b (fun he => by simp at he; subst he; exact hne hb'), rfl⟩) (h.loc l hl)
    · refine nodup_set hj ?_ h.nd
      simp only [LS.blk, h1]
  · have hle : G.le (G.set w.heap.size .loc) := Gh.le_new h _
    have hs : ∀ b, b ≠ w.heap.size → w'.heap[b]? = w.heap[b]? ∧ (G.set w.heap.size .loc).role b = G.role b := fun b hb => ⟨h3 b hb, Gh.set_ne _ _ hb⟩
    have hrf : ∀ b, G.role b ≠ .free → b ≠ w.heap.size := fun b hb he => hb (h.free b (by omega))
    have ho : LSR w' (G.set w.heap.size .loc) (.raw v' e bt K zs) := ⟨cs, hown, rowR_mono (fun x cs hx => Kr_mono hle hx) hrr, hcap, fun b hb => by rw [h1] at hb; simp at hb; subst hb; exact Gh.set_same _ _ _⟩
    refine ⟨_, hle, ?_, fun b hb => Gh.set_ne _ _ (hrf b hb)⟩
    refine h.change (fun b => b = w.heap.size) hle henv (fun b hb => ?_) (fun b hb => hs b hb) (fun b hb => ?_) ?_ ?_ ?_ ?_ ?_ ?_ ?_
    · rw [Gh.set_ne _ _ (by omega)]; exact h.free b (by omega)
    · subst hb; unfold BlockOK; rw [Gh.set_same]; trivial
    · intro b t i hb1 hb2 tab x cs' k1 k2 k3
      refine ⟨tab, x, k1, k2, ObjR_keep (w := w) (L := Ls) hle (holeAt_set hj (fun _ _ _ => rfl) (fun _ _ _ => rfl) t i) (fun b f hb => hs b (hrf b ?_)) k3⟩
      rcases hb with hb | ⟨p, hb⟩ <;> rw [hb] <;> simp
    · intro l hl
      rcases List.mem_or_eq_of_mem_set hl with hl | rfl
      · exact LSR_keep hle (fun b hb' => hs b (by have := h.blk_lt hl hb'; omega)) (h.loc l hl)
      · exact ho
    · exact nodup_set_new Ls j _ _ (fun m hm b hb => h.blk_lt hm hb) (by simpa [LS.blk] using h1) hj h.nd
    · intro t tab i k1 k2
      obtain ⟨b, hb⟩ := h.ex t tab i k1 k2
      exact ⟨b, by rw [Gh.set_ne _ _ (hrf b (by rw [hb]; simp))]; exact hb⟩
    · intro b b' t i k1 k2
      have n1 : b ≠ w.heap.size := fun he => by subst he; rw [Gh.set_same] at k1; simp at k1
      have n2 : b' ≠ w.heap.size := fun he => by subst he; rw [Gh.set_same] at k2; simp at k2
      rw [Gh.set_ne _ _ n1] at k1; rw [Gh.set_ne _ _ n2] at k2
      exact h.inj b b' t i k1 k2
    · intro b b' t i f k1 k2
      have n1 : b ≠ w.heap.size := fun he => by subst he; rw [Gh.set_same] at k1; simp at k1
      have n2 : b' ≠ w.heap.size := fun he => by subst he; rw [Gh.set_same] at k2; simp at k2
      rw [Gh.set_ne _ _ n1] at k1; rw [Gh.set_ne _ _ n2] at k2
      exact h.finj b b' t i f k1 k2
    · intro b t i f k1
      have n1 : b ≠ w.heap.size := fun he => by subst he; rw [Gh.set_same] at k1; simp at k1
      rw [Gh.set_ne _ _ n1] at k1
      exact h.fex b t i f k1

def appRE (P : Program) (ops : Array Oper) (E : Env) (i : Nat) (K : Kd) (bt : Nat) : Option (En × En × TypeId × Option Nat) :=
  match ops[i]? with
  | some o => (match goes ops (look E []) o, o.op with
    | true, .call c => (match c.callee, c.args.toList, c.argTypes.toList with
      | .builtin .append, [s, x], [t, u] => (match Nat.beq t u, P.underlying t, opnd (look E []) [] s, opnd (look E []) [] x with
        | true, some (.slice el), some es, some ex => (match P.info? el with
          | some inf => (match infOK inf K bt with
            | true => some (es, ex, el, o.dst)
            | false => none)
          | none => none)
        | _, _, _, _ => none)
      | _, _, _ => none)
    | _, _ => none)
  | none => none

/-- An append of given elements onto an unseen list. -/
theorem stepAppR (j : Nat) {v : Value} {bt : Nat} {K : Kd} {xs ys : List K.den} {e' : TypeId} {d : Option Nat} {i : Nat} (hE : EnvR G N a E) (hH : Holds w G T Ls)
    (hb : appRE P ops E i K bt = some (.val v, .pl K ys, e', d)) (hj : Ls[j]? = some (.raw v e' bt K xs)) (hd : dstOK d N = true) (hq : (xs.length + ys.length) * bt ≤ 140737488355328)
    (k : ∀ v' a' w' G', G.le G' → EnvR G' N a' (putE d (.val v') E) → Holds w' G' T (Ls.set j (.raw v' e' bt K (xs ++ ys))) → (∀ b t' i' f', G.role b = .fld t' i' f' → w'.heap[b]? = w.heap[b]?) → (∀ b, G.role b ≠ .free → G'.role b = G.role b) → wpFrom P ops Q (i + 1) a' w') : wpFrom P ops Q i a w := by
  unfold appRE at hb
  split at hb
  · rename_i o ho
    split at hb
    · rename_i c hg hop
      split at hb
      · rename_i s x t u hcal hargs hts
        split at hb
        · rename_i el es ex htu hu hs hx
          split at hb
          · rename_i inf hinf
            have hok : infOK inf K bt = true := by
              cases hq : infOK inf K bt with
              | true => rfl
              | false => rw [hq] at hb; simp at hb
            rw [hok] at hb
            simp only [Option.some.injEq, Prod.mk.injEq] at hb
            obtain ⟨rfl, rfl, rfl, rfl⟩ := hb
            have htu' := Nat.eq_of_beq_eq_true htu
            subst htu'
            have hsv : a.eval s = v := opnd_ok (CurR_start hE) (by simp) hs
            have hv2 := opnd_ok (CurR_start hE) (by simp) hx
            obtain ⟨b, cc, ty, nn, hxv, hnn, hbr, hcs, hone, hrow⟩ := hv2
            obtain ⟨cs, o1, o2, o3, o4⟩ := hH.loc _ (List.mem_of_getElem? hj)
            have hblk : w.heap[b]? = some (.cells cc ty (0, 0)) := by
              have := hH.block b; unfold BlockOK at this; rw [hbr] at this; exact this
            have hop' : o.op = .call { callee := .builtin .append, args := #[s, x], argTypes := #[t, t] } := by
              rw [hop]
              congr 1
              cases c with
              | mk ca ar at_ =>
                simp only at hcal hargs hts
                subst hcal
                congr 1
                · rw [← hargs]
                · rw [← hts]
            have hcell : ∀ jj uu, cc.toList[jj]? = some uu → w.cell? ((⟨b, 0, none⟩ : Addr).add jj) = some uu := fun jj uu hq => by
              rw [addr_add, cell_at hblk, Nat.zero_add]; simpa using hq
            rcases append_core (P := P) (w := w) (ty := o.type) (bt := bt) hu hinf hok o1 o3 ⟨b, 0, none⟩ ys.length nn (by simpa using hcs) hcell hone hq with ⟨v', w', hr, h2, h3, h4, h5⟩
            · have hlen : (xs ++ ys).length = xs.length + ys.length := by simp
              rw [← hlen] at h2
              obtain ⟨G', hle, hH', hro⟩ := hH.rawTurn hj o4 h2 (rowR_app o2 o1.1 hrow) h3 h4 h5
              refine wpFrom_value ho (goes_ok (CurR_start hE) hg) (v := v') (w' := w') ?_ (k v' _ _ G' hle ((hE.mono hle).putO hd rfl) hH' ?_ hro)
              · simp only [execOp, hop', resolve, invoke, builtin, Sem.run_bind, Sem.run_pure, Result.andThen_ok, List.map_toArray, List.map_cons, List.map_nil, hsv, hxv, hr]
              · intro b1 t1 i1 f1 hb1
                rcases h5 with ⟨_, _, h5⟩ | ⟨_, _, h5⟩
                · exact h5 b1 (fun hq => by rw [o4 _ hq] at hb1; simp at hb1)
                · exact h5 b1 (fun hq => by rw [hH.free b1 (by omega)] at hb1; simp at hb1)
          · simp at hb
        · simp at hb
      · simp at hb
    · simp at hb
  · simp at hb
end
end Go.Proofs.Ytlfemhkabjafeaa.M

/- Own library, part 20: the library's sort upon an unseen list; publishing it. -/
set_option linter.unusedVariables false
set_option linter.unusedSimpArgs false
namespace Go.Proofs.Ytlfemhkabjafeaa.M

section
variable {P : Program} {w : World} {G : Gh} {T T' : Tabs} {Ls Ls' : List LS} {a : Act} {N : Nat} {E : Env} {ops : Array Oper} {Q : Exit → Act → World → Prop}

theorem rowR_strs : ∀ {xs : List (List UInt8)} {cs : List Value}, rowR (Kr G .str) 1 xs cs → cs.take xs.length = xs.map encStr
  | [], cs, _ => by simp
  | x :: xs, cs, ⟨h0, h1, h2⟩ => by
    cases cs with
    | nil => simp at h0
    | cons c cs =>
      simp only [List.take_succ_cons, List.take_zero] at h1
      have hc : c = encStr x := by
        have := h1; simp only [Kr] at this
        simpa using this
      simp only [List.length_cons, List.take_succ_cons, List.map_cons]
      rw [rowR_strs (by simpa using h2), hc]

theorem rowR_ofStrs : ∀ {xs : List (List UInt8)}, rowR (Kr G .str) 1 xs (xs.map encStr)
  | [] => trivial
  | x :: xs => ⟨by simp, by simp [Kr], by simpa using rowR_ofStrs (xs := xs)⟩

/-- The list has been sorted in place; new blocks may have come. -/
theorem Holds.rawSorted (h : Holds w G T Ls) {j g c e bt n : Nat} {xs ts : List (List UInt8)} {os : Array Obj} (hj : Ls[j]? = some (.raw (.slice (some ⟨g, 0, none⟩) xs.length c) e bt .str xs)) (hl : ts.length = xs.length) :
    Holds (Go.Sort.grow (Go.Sort.putRow encStr (Go.Sort.ahead w n) g 0 ts.toArray) os) G T (Ls.set j (.raw (.slice (some ⟨g, 0, none⟩) xs.length c) e bt .str ts)) := by
  obtain ⟨cs, o1, o2, o3, o4⟩ := h.loc _ (List.mem_of_getElem? hj)
  obtain ⟨q1, q2, q3, q4, q5⟩ := grownBy_sorted (w := w) (g := g) (n := n) (os := os) ts.toArray
  have hrg : G.role g = .loc := o4 g rfl
  have hglt : g < w.heap.size := h.lt (by rw [hrg]; simp)
  rcases o1.2 with ⟨hn, _⟩ | ⟨g', cap, cur, hv, hb0, hb, h1, h2, h3, h4⟩
  · simp at hn
  · simp only [Value.slice.injEq, Option.some.injEq, Addr.mk.injEq, and_true, true_and] at hv
    obtain ⟨rfl, rfl⟩ := hv
    have hown := ownsRow_sorted (w := w) (n := n) (os := os) (ss := xs) (ts := ts) hl (Nat.zero_le _) hb h1 h2 (by simpa [Kd.w] using h3)
    have hsame : ∀ b, ¬ (b = g ∨ w.heap.size ≤ b) → (Go.Sort.grow (Go.Sort.putRow encStr (Go.Sort.ahead w n) g 0 ts.toArray) os).heap[b]? = w.heap[b]? := fun b hb' => q5 b (by omega) (fun he => by simp at he; exact hb' (.inl (by first | exact he | exact he.symm)))
    have hnb : ∀ b, G.role b ≠ .free → G.role b ≠ .loc → ¬ (b = g ∨ w.heap.size ≤ b) := by
      rintro b k1 k2 (rfl | hb')
      · exact k2 hrg
      · exact k1 (h.free b hb')
    refine h.change (fun b => b = g ∨ w.heap.size ≤ b) (Gh.le_refl G) ⟨q1, q2, q3⟩ (fun b hb' => h.free b (by omega)) (fun b hb' => ⟨hsame b hb', rfl⟩) ?_ ?_ ?_ ?_ h.ex h.inj h.finj h.fex
    · rintro b (rfl | hb')
      · unfold BlockOK; rw [hrg]; trivial
      · unfold BlockOK; rw [h.free b hb']; trivial
    · intro b t i _ _ tab x cs' k1 k2 k3
      refine ⟨tab, x, k1, k2, ObjR_keep (w := w) (L := Ls) (Gh.le_refl G) (holeAt_set hj (fun _ _ _ => rfl) (fun _ _ _ => rfl) t i) (fun b f hb' => ⟨hsame b (hnb b ?_ ?_), rfl⟩) k3⟩
      · rcases hb' with hb' | ⟨p, hb'⟩ <;> rw [hb'] <;> simp
      · rcases hb' with hb' | ⟨p, hb'⟩ <;> rw [hb'] <;> simp
    · intro l hl'
      rcases mem_set_other hj (b := g) rfl h.nd hl' with rfl | ⟨hl', hne⟩
      · refine ⟨ts.map encStr, ?_, rowR_ofStrs, o3, o4⟩
        rw [hl]; exact hown
      · refine LSR_keep (Gh.le_refl G) (fun b hb' => ⟨hsame b ?_, rfl⟩) (h.loc l hl')
        rintro (rfl | hge)
        · exact hne hb'
        · have := h.blk_lt hl' hb'; omega
    · exact nodup_set hj rfl h.nd

/-- The list is published: from now on it stays. -/
theorem Holds.rawPub (h : Holds w G T Ls) {v : Value} {e bt : Nat} {K : Kd} {xs : List K.den} (hm : .raw v e bt K xs ∈ Ls) (hd : ∀ l ∈ Ls', l ∈ Ls ∧ l.blk ≠ v.ownBlock ∨ l.blk = none ∧ l ∈ Ls) (hh : ∀ t i f, holeAt t i f Ls' = holeAt t i f Ls) (hnd : (Ls'.filterMap LS.blk).Nodup) :
    ∃ G', G.le G' ∧ VR G' (.list K) xs v ∧ Holds w G' T Ls' := by
  obtain ⟨cs, o1, o2, o3, o4⟩ := h.loc _ hm
  cases hb : v.ownBlock with
  | none =>
    refine ⟨G, Gh.le_refl G, ownV_list (o := .loc) ⟨cs, o1, o2, o3, fun b hb' => by rw [hb] at hb'; simp at hb'⟩, ?_⟩
    refine h.change (fun _ => False) (Gh.le_refl G) ⟨rfl, rfl, rfl⟩ h.free (fun b _ => ⟨rfl, rfl⟩) (fun _ hb => hb.elim) ?_ ?_ hnd h.ex h.inj h.finj h.fex
    · intro b t i _ _ tab x cs h1 h2 h3
      exact ⟨tab, x, h1, h2, ObjR_keep (w := w) (L := Ls) (Gh.le_refl G) (fun f => hh t i f) (fun _ _ _ => ⟨rfl, rfl⟩) h3⟩
    · intro l hl
      rcases hd l hl with h1 | h1
      · exact h.loc l h1.1
      · exact h.loc l h1.2
  | some g =>
    have hg := o4 g hb
    have hle : G.le (G.set g (.grow .loc cs)) := Gh.le_set (by rw [hg]; trivial)
    have hs : ∀ b, b ≠ g → w.heap[b]? = w.heap[b]? ∧ (G.set g (.grow .loc cs)).role b = G.role b := fun b hb => ⟨rfl, Gh.set_ne _ _ hb⟩
    have hrf : ∀ (r : Role) b, G.role b = r → r ≠ .loc → b ≠ g := fun r b hq hq2 he => by rw [he, hg] at hq; exact hq2 hq.symm
    refine ⟨_, hle, ownV_list (o := .loc) ⟨cs, o1, rowR_mono (fun x cs hx => Kr_mono hle hx) o2, o3, fun b hb' => by rw [hb] at hb'; simp at hb'; subst hb'; exact Gh.set_same _ _ _⟩, ?_⟩
    refine h.change (fun b => b = g) hle ⟨rfl, rfl, rfl⟩ (fun b hb => ?_) (fun b hb => hs b hb) (fun b hb' => ?_) ?_ ?_ hnd ?_ ?_ ?_ ?_
    · have := h.free b hb
      rw [Gh.set_ne _ _ (hrf _ b this (by simp))]; exact this
    · subst hb'
      obtain ⟨cur, k1, k2⟩ := ownsRow_prefix o1 hb
      unfold BlockOK; rw [Gh.set_same]
      exact ⟨cur, e, k1, k2⟩
    · intro b t i hb1 hb2 tab x cs' k1 k2 k3
      refine ⟨tab, x, k1, k2, ObjR_keep (w := w) (L := Ls) hle (fun f => hh t i f) (fun b f hb => hs b ?_) k3⟩
      rcases hb with hb | ⟨p, hb⟩
      · exact hrf _ b hb (by simp)
      · exact hrf _ b hb (by simp)
    · intro l hl
      rcases hd l hl with ⟨h1, h2⟩ | ⟨h1, h2⟩
      · exact LSR_keep hle (fun b hb' => hs b (fun he => by subst he; rw [hb] at h2; exact h2 hb')) (h.loc l h1)
      · exact LSR_keep hle (fun b hb' => by rw [h1] at hb'; simp at hb') (h.loc l h2)
    · intro t tab i k1 k2
      obtain ⟨b, hb⟩ := h.ex t tab i k1 k2
      exact ⟨b, by rw [Gh.set_ne _ _ (hrf _ b hb (by simp))]; exact hb⟩
    · intro b b' t i k1 k2
      have n1 : b ≠ g := fun he => by subst he; rw [Gh.set_same] at k1; simp at k1
      have n2 : b' ≠ g := fun he => by subst he; rw [Gh.set_same] at k2; simp at k2
      rw [Gh.set_ne _ _ n1] at k1; rw [Gh.set_ne _ _ n2] at k2
      exact h.inj b b' t i k1 k2
    · intro b b' t i f k1 k2
      have n1 : b ≠ g := fun he => by subst he; rw [Gh.set_same] at k1; simp at k1
      have n2 : b' ≠ g := fun he => by subst he; rw [Gh.set_same] at k2; simp at k2
      rw [Gh.set_ne _ _ n1] at k1; rw [Gh.set_ne _ _ n2] at k2
      exact h.finj b b' t i f k1 k2
    · intro b t i f k1
      have n1 : b ≠ g := fun he => by subst he; rw [Gh.set_same] at k1; simp at k1
      rw [Gh.set_ne _ _ n1] at k1
      exact h.fex b t i f k1

/-- A slot that holds a value of which one knows more. -/
theorem EnvR.more (hE : EnvR G N a E) (s : Nat) {v : Value} {e : En} (h : lk E s = some (.val v)) (he : EnR G e v) : EnvR G N a ((s, e) :: E) := by
  refine ⟨hE.1, hE.2.1, fun u e2 ht => ?_⟩
  rw [lk_cons] at ht
  by_cases hst : s = u
  · subst hst
    simp at ht; subst ht
    have := hE.2.2 s _ h
    simp only [EnR] at this
    rw [this]; exact he
  · rw [if_neg hst] at ht; exact hE.2.2 u _ ht

/-- A call of which one knows what it does at these arguments in this world. -/
theorem stepCallV {i f : Nat} {As : List En} {R : En} {d : Option Nat} (hok : callable P f = true) (hC : ∀ args : List Value, All2 (EnR G) As args → Calls P f args.toArray w (PostC G R T' Ls')) (hE : EnvR G N a E)
    (hc : callE ops E i As = some (f, As, d)) (hd : dstOK d N = true) (hout : True)
    (k : ∀ a' w' G', G.le G' → EnvR G' N a' (putE d R E) → Holds w' G' T' Ls' → wpFrom P ops Q (i + 1) a' w') : wpFrom P ops Q i a w := by
  unfold callE at hc
  split at hc
  · rename_i o ho
    split at hc
    · rename_i hgo
      have hw := goes_ok (CurR_start hE) hgo
      split at hc
      · rename_i c hop
        split at hc
        · rename_i f' hcal
          split at hc
          · rename_i es hes
            simp only [Option.some.injEq, Prod.mk.injEq] at hc
            obtain ⟨rfl, rfl, rfl⟩ := hc
            rw [wpFrom_cons ho, if_pos hw]
            refine .inl ?_
            unfold Oper.wp
            have hr : (execOp a.eval o).run P w = .ok (.enter f' (c.args.toList.map a.eval).toArray) w := by
              have hargs : (c.args.map a.eval) = (c.args.toList.map a.eval).toArray := by
                apply Array.ext'; simp
              simp [execOp, hop, resolve, hcal, Act.eval, Deferred.ofValue, invoke, callFunc_enter hok]
              exact hargs
            rw [hr]
            refine (hC _ (enOps_ok (CurR_start hE) hes)).mono ?_
            intro e w' hp
            cases e with
            | returned v =>
              obtain ⟨G', hle, hv, hH'⟩ := hp
              exact k _ _ G' hle ((hE.mono hle).putO hd hv) hH'
            | panicked c => exact hp.elim
            | outgrown => exact False.elim hp
          · simp at hc
        · simp at hc
      · simp at hc
    · simp at hc
  · simp at hc
end
end Go.Proofs.Ytlfemhkabjafeaa.M

/- Own library, part 21: the start, where all blocks are frozen; the end. -/
set_option linter.unusedVariables false
set_option linter.unusedSimpArgs false
namespace Go.Proofs.Ytlfemhkabjafeaa.M

section
variable {P : Program} {w w' : World} {G : Gh} {T T' : Tabs} {Ls : List LS}

/-- At the start all blocks are frozen. -/
def Gh.start (w : World) : Gh := { role := fun b => (match w.heap[b]? with | some o => .pub o | none => .free), base := w }

theorem Holds.start (w : World) (hT : ∀ t tab, T t = some tab → tab.xs.length = 0) : Holds w (Gh.start w) T [] where
  os := rfl
  tape := rfl
  output := rfl
  free := by
    intro b hb
    have : w.heap[b]? = none := Array.getElem?_eq_none hb
    simp [Gh.start, this]
  block := by
    intro b
    unfold BlockOK
    simp only [Gh.start]
    cases h : w.heap[b]? with
    | none => trivial
    | some o => rfl
  ex := by intro t tab i h1 h2; rw [hT t tab h1] at h2; omega
  inj := by
    intro b b' t i h1
    simp only [Gh.start] at h1
    split at h1 <;> simp at h1
  finj := by
    intro b b' t i f h1
    simp only [Gh.start] at h1
    split at h1 <;> simp at h1
  fex := by
    intro b t i f h1
    simp only [Gh.start] at h1
    split at h1 <;> simp at h1
  loc := by simp
  nd := by simp

theorem Holds.kept (h : Holds w' G T Ls) (hle : (Gh.start w).le G) : (w'.os = w.os ∧ w'.tape = w.tape ∧ w'.output = w.output) ∧ w.heap.size ≤ w'.heap.size ∧ ∀ b, b < w.heap.size → w'.heap[b]? = w.heap[b]? := by
  have hb : ∀ b, b < w.heap.size → w'.heap[b]? = w.heap[b]? := by
    intro b hlt
    have hs : w.heap[b]? = some w.heap[b] := by simp
    have h1 := hle.2 b
    simp only [Gh.start, hs] at h1
    have h2 := h.block b
    unfold BlockOK at h2
    rw [h1] at h2
    rw [hs]; exact h2
  refine ⟨⟨by rw [h.os, hle.1]; rfl, by rw [h.tape, hle.1]; rfl, by rw [h.output, hle.1]; rfl⟩, ?_, hb⟩
  rcases Nat.lt_or_ge w'.heap.size w.heap.size with hlt | hge
  · have := hb _ hlt
    rw [Array.getElem?_eq_none (Nat.le_refl _)] at this
    simp [hlt] at this
  · exact hge

/-- A function that is said to do something, called at the start. -/
theorem Spec.start {f : Nat} {As : List En} {R : En} (hS : Spec P f As T R T') (hT : ∀ t tab, T t = some tab → tab.xs.length = 0) {args : List Value} (hA : All2 (EnR (Gh.start w)) As args) :
    Calls P f args.toArray w fun e w' => match e with
      | .returned v => (∃ G, EnR G R v) ∧ (w'.os = w.os ∧ w'.tape = w.tape ∧ w'.output = w.output) ∧ w.heap.size ≤ w'.heap.size ∧ ∀ b, b < w.heap.size → w'.heap[b]? = w.heap[b]?
      | .outgrown => False
      | .panicked _ => False := by
  refine (hS.run args w (Gh.start w) [] hA (Holds.start w hT) NoHole.nil).mono ?_
  intro e w' hp
  cases e with
  | returned v =>
    obtain ⟨G', hle, hv, hH⟩ := hp
    exact ⟨⟨G', hv⟩, hH.kept hle⟩
  | panicked c => exact hp
  | outgrown => exact hp
end
end Go.Proofs.Ytlfemhkabjafeaa.M

/- Own library: what comes in by the statement's reading is plain data that lies in frozen blocks. -/
set_option linter.unusedVariables false
set_option linter.unusedSimpArgs false
namespace Go.Proofs.Ytlfemhkabjafeaa.M
open Go.ChangeShapes Go.WideShapes Go.RowKit

/-! ### Kinds and types -/
def fieldsK (P : Program) (T : TypeId → Kd → Bool) : Nat → List Field → Kd → Bool
  | _, [], .unit => true
  | off, f :: r, .pair a b => T f.type a && (P.cellsOf f.type == a.w) && (f.offset == off) && fieldsK P T (off + a.w) r b
  | _, _, _ => false

def tyK (P : Program) : Nat → TypeId → Kd → Bool
  | 0, _, _ => false
  | n + 1, t, k => match P.underlying t, k with
    | some (.int a), .int b => decide (a = b)
    | some .bool, .bool => true
    | some .string, .str => true
    | some (.slice e), .list q => tyK P n e q && (P.cellsOf e == q.w) && decide (0 < q.w)
    | some (.struct fs), .pair a b => fieldsK P (tyK P n) 0 fs.toList (.pair a b) && (P.cellsOf t == (Kd.pair a b).w)
    | _, _ => false

/-- What a reading tells beside. -/
def Kd.Fits : (k : Kd) → k.den → Prop
  | .unit, _ => True
  | .int k, n => (Lit.int k n).wf = true
  | .bool, _ => True
  | .str, s => s.length ≤ 9223372036854775807
  | .ptr _, _ => True
  | .list k, xs => xs.length ≤ 9223372036854775807 ∧ ∀ x ∈ xs, k.Fits x
  | .pair a b, x => a.Fits x.1 ∧ b.Fits x.2

theorem choose_list {α : Type} {R : Nat → α → Prop} : ∀ (n : Nat), (∀ i, i < n → ∃ y, R i y) → ∃ ys : List α, ys.length = n ∧ ∀ i (h : i < ys.length), R i ys[i]
  | 0, _ => ⟨[], rfl, fun i h => by simp at h⟩
  | n + 1, h => by
    obtain ⟨ys, h1, h2⟩ := choose_list n (fun i hi => h i (by omega))
    obtain ⟨y, hy⟩ := h n (by omega)
    refine ⟨ys ++ [y], by simp [h1], fun i hi => ?_⟩
    by_cases hlt : i < ys.length
    · rw [List.getElem_append_left hlt]; exact h2 i hlt
    · have : i = ys.length := by simp at hi; omega
      subst this
      rw [List.getElem_append_right (Nat.le_refl _)]
      simp only [Nat.sub_self, List.getElem_cons_zero, h1]; exact hy

theorem rowR_of {α : Type} {R : α → List Value → Prop} {w : Nat} : ∀ (xs : List α) (cs : List Value), (∀ i (h : i < xs.length), w * (i + 1) ≤ cs.length ∧ R xs[i] ((cs.drop (w * i)).take w)) → rowR R w xs cs
  | [], _, _ => trivial
  | x :: xs, cs, h => by
    have h0 := h 0 (by simp)
    refine ⟨by have := h0.1; omega, by simpa using h0.2, rowR_of xs (cs.drop w) (fun i hi => ?_)⟩
    obtain ⟨a1, a2⟩ := h (i + 1) (by simp; omega)
    have e : w * (i + 1) = w * i + w := by rw [Nat.mul_add, Nat.mul_one]
    refine ⟨?_, ?_⟩
    · rw [List.length_drop]
      have : w * (i + 1 + 1) = w * (i + 1) + w := by exact Nat.mul_succ w (i + 1)
      omega
    · rw [List.drop_drop]
      have e2 : w + w * i = w * (i + 1) := by omega
      rw [e2]
      simpa using a2

theorem cells_of {w : World} {a : Addr} {n : Nat} {cs : List Value} (h : w.cells? 0 a n = some cs) (hn : 0 < n) : a.spot = none ∧ ∃ c t fr, w.heap[a.block]? = some (.cells c t fr) ∧ a.off + n ≤ c.size ∧ (c.toList.drop a.off).take n = cs := by
  obtain ⟨_, hl, hc⟩ := World.cells?_some h
  have h0 := hc 0 hn
  have ha0 : a.add 0 = a := by simp [Addr.add]
  rw [ha0] at h0
  have hs : ∃ v, cs[0]? = some v := ⟨cs[0], by simp⟩
  obtain ⟨v0, hv0⟩ := hs
  rw [hv0] at h0
  unfold World.cell? at h0
  split at h0
  · rename_i c t fr hb
    have hsp : a.spot = none := by
      cases hspot : a.spot with
      | none => rfl
      | some s => rw [hspot] at h0; simp at h0
    have each : ∀ i, i < n → c[a.off + i]? = cs[i]? := by
      intro i hi
      have h1 := hc i hi
      rw [← h1]
      unfold World.cell?
      have hb2 : (a.add i).block = a.block := block_add a i
      rw [hb2, hb]
      have hs2 : (a.add i).spot = none := by unfold Addr.add; split <;> simp [hsp]
      have ho2 : (a.add i).off = a.off + i := by unfold Addr.add; split <;> simp_all
      simp only [hs2, ho2, Option.isSome_none]
      rfl
    have hsz : a.off + n ≤ c.size := by
      have h1 := each (n - 1) (by omega)
      have h2 : cs[n - 1]? = some cs[n - 1] := by simp
      rw [h2] at h1
      have := (Array.getElem?_eq_some_iff.1 h1).1
      omega
    refine ⟨hsp, c, t, fr, hb, hsz, ?_⟩
    apply List.ext_getElem?
    intro i
    by_cases hi : i < n
    · rw [List.getElem?_take_of_lt hi, List.getElem?_drop, Array.getElem?_toList, each i hi]
    · rw [List.getElem?_eq_none (by rw [List.length_take]; omega), List.getElem?_eq_none (by omega)]
  · cases h0

section
variable {H : Type} {enc : TypeId × Value → H} {P : Program} {w : World} {spare : Nat → Bool} {held : Bool}

theorem start_pre {b : Nat} {c : Array Value} {t : TypeId} {fr : Nat × Nat} (h : w.heap[b]? = some (.cells c t fr)) : (Gh.start w).pre b = some c.toList := by
  simp [Gh.pre, Gh.start, h]

theorem reads : ∀ (n : Nat) (t : TypeId) (k : Kd) (fuel : Nat) (cs : List Value) (x : DataW H × List MemPlace), tyK P n t k = true → DataW.trod enc P w 0 spare held fuel t cs = some x → ∃ y : k.den, Kr (Gh.start w) k y cs ∧ k.Fits y
  | 0, _, _, _, _, _, h, _ => by simp [tyK] at h
  | n + 1, t, k, fuel, cs, x, h, hx => by
    unfold tyK at h
    split at h
    · rename_i a b hu
      have : a = b := by simpa using h
      subst this
      obtain ⟨m, rfl, _, hw⟩ := DataW.trod_int hu hx
      exact ⟨m, by simp [Kr], hw⟩
    · rename_i hu
      obtain ⟨b, rfl, _⟩ := DataW.trod_bool hu hx
      exact ⟨b, by simp [Kr], trivial⟩
    · rename_i hu
      obtain ⟨s, rfl, _, hs⟩ := DataW.trod_string hu hx
      refine ⟨s.data.toList, by simp [Kr], ?_⟩
      have e : s.data.toList.length = s.size := by rw [Array.length_toList]; rfl
      unfold maxLen at hs
      simp only [Kd.Fits, e]; omega
    · rename_i e q hu
      simp only [Bool.and_eq_true, beq_iff_eq, decide_eq_true_eq] at h
      obtain ⟨⟨h1, h2⟩, h3⟩ := h
      rcases DataW.trod_slice hu hx with ⟨rfl, _⟩ | ⟨a, len, cap, elems, rest, m, _, rfl, _, _, hlc, hcap, hlen, hel, _, _⟩
      · exact ⟨[], ⟨none, 0, by simp, Nat.le_refl _, .inl rfl⟩, Nat.zero_le _, fun x hx => by simp at hx⟩
      · rw [h2] at hel
        have each : ∀ i, i < len → ∃ y : q.den, ∃ c, w.cells? 0 (a.add (i * q.w)) q.w = some c ∧ Kr (Gh.start w) q y c ∧ q.Fits y := by
          intro i hi
          have h4 := hel i hi
          rw [List.getElem?_eq_getElem (by omega), Option.bind_eq_some_iff] at h4
          obtain ⟨c, hc, hd⟩ := h4
          obtain ⟨y, hy, hf⟩ := reads n e q m c _ h1 hd
          exact ⟨y, c, hc, hy, hf⟩
        obtain ⟨ys, hyl, hy⟩ := choose_list len each
        have hcl : len ≤ 9223372036854775807 := by unfold maxLen at hcap; omega
        refine ⟨ys, ⟨some a, cap, by rw [hyl], by omega, ?_⟩, by omega, fun y hm => ?_⟩
        · cases hlz : ys with
          | nil => exact .inl rfl
          | cons y0 r =>
            rw [← hlz]
            have hpos : 0 < ys.length := by rw [hlz]; simp
            obtain ⟨c0, hc0, _, _⟩ := hy 0 hpos
            have ha0 : a.add (0 * q.w) = a := by simp [Addr.add]
            rw [ha0] at hc0
            obtain ⟨hsp, c, ct, fr, hb, _, _⟩ := cells_of hc0 h3
            refine .inr ⟨a.block, a.off, c.toList, by rw [show a = ⟨a.block, a.off, a.spot⟩ from rfl, hsp], start_pre hb, rowR_of _ _ (fun i hi => ?_)⟩
            obtain ⟨ci, hci, hk, _⟩ := hy i hi
            obtain ⟨_, c', ct', fr', hb', hsz, htk⟩ := cells_of hci h3
            have hbl : (a.add (i * q.w)).block = a.block := block_add a _
            have hof : (a.add (i * q.w)).off = a.off + i * q.w := by unfold Addr.add; split <;> simp_all
            rw [hbl, hb] at hb'
            simp only [Option.some.injEq, Obj.cells.injEq] at hb'
            obtain ⟨rfl, _, _⟩ := hb'
            rw [hof] at hsz htk
            have e1 : q.w * i = i * q.w := Nat.mul_comm _ _
            have e2 : q.w * (i + 1) = i * q.w + q.w := by rw [Nat.mul_add, Nat.mul_one, e1]
            refine ⟨?_, ?_⟩
            · rw [List.length_drop, Array.length_toList]; omega
            · rw [List.drop_drop, e1, htk]; exact hk
        · obtain ⟨i, hi, rfl⟩ := List.mem_iff_getElem.1 hm
          obtain ⟨_, _, _, hf⟩ := hy i hi
          exact hf
    · rename_i fs a b hu
      obtain ⟨xs, m, _, _, hcl, hxl, hf⟩ := DataW.trod_struct hu hx
      simp only [Bool.and_eq_true, beq_iff_eq] at h
      obtain ⟨h, hcw⟩ := h
      have go : ∀ (l : List Field) (k : Kd) (off i : Nat), fieldsK P (tyK P n) off l k = true → fs.toList.drop i = l → ∃ y : k.den, Kr (Gh.start w) k y ((cs.drop off).take k.w) ∧ k.Fits y := by
        intro l
        induction l with
        | nil =>
          intro k off i hk _
          cases k <;> simp [fieldsK] at hk
          exact ⟨(), by simp [Kr, Kd.w], trivial⟩
        | cons f r ih =>
          intro k off i hk hd
          cases k with
          | pair a b =>
            simp only [fieldsK, Bool.and_eq_true, beq_iff_eq] at hk
            obtain ⟨⟨⟨k1, k2⟩, k3⟩, k4⟩ := hk
            have hfi : fs[i]? = some f := by
              have : (fs.toList.drop i)[0]? = some f := by rw [hd]; rfl
              rw [List.getElem?_drop] at this
              simpa using this
            have hil : i < fs.size := (Array.getElem?_eq_some_iff.1 hfi).1
            have h4 := hf i f hfi
            rw [k2, k3, List.getElem?_eq_getElem (by omega)] at h4
            obtain ⟨y1, hy1, hf1⟩ := reads n f.type a m _ _ k1 h4
            have hd2 : fs.toList.drop (i + 1) = r := by rw [← List.tail_drop, hd]; rfl
            obtain ⟨y2, hy2, hf2⟩ := ih b (off + a.w) (i + 1) k4 hd2
            refine ⟨(y1, y2), ⟨_, _, ?_, hy1, hy2⟩, hf1, hf2⟩
            simp only [Kd.w]
            rw [List.take_add, List.drop_drop]
          | _ => simp [fieldsK] at hk
      obtain ⟨y, hy, hf2⟩ := go fs.toList (.pair a b) 0 0 h (by simp)
      rw [List.drop_zero, List.take_of_length_le (by omega)] at hy
      exact ⟨y, hy, hf2⟩
    · cases h

theorem reads_VR {n : Nat} {t : TypeId} {k : Kd} {base : Nat} {v : Value} {d : DataW H} {ps : List MemPlace} (hk : tyK P n t k = true) (hval : Value.okWide P w .any base t v) (h : DataW.Trod enc P w 0 spare held t v d ps) :
    ∃ y : k.den, VR (Gh.start w) k y v ∧ k.Fits y := by
  obtain ⟨fuel, hf⟩ := h
  obtain ⟨y, hy, hfit⟩ := reads n t k fuel _ _ hk hf
  refine ⟨y, ?_, hfit⟩
  cases n with
  | zero => simp [tyK] at hk
  | succ n =>
    unfold tyK at hk
    split at hk
    · rename_i a b hu
      obtain ⟨m, rfl⟩ := okWide_int hu hval
      simpa [VR, Kd.agg, Value.cells] using hy
    · rename_i hu
      obtain ⟨m, rfl⟩ := okWide_bool hu hval
      simpa [VR, Kd.agg, Value.cells] using hy
    · rename_i hu
      obtain ⟨m, rfl⟩ := okWide_string hu hval
      simpa [VR, Kd.agg, Value.cells] using hy
    · rename_i e q hu
      obtain ⟨a, len, cap, rfl⟩ := okWide_slice hu hval
      simpa [VR, Kd.agg, Value.cells] using hy
    · rename_i fs a b hu
      obtain ⟨cs, rfl, _⟩ := okWide_struct hu hval
      exact ⟨cs, rfl, hy⟩
    · cases hk

/-- What the start leaves as it was, in the kit's words. -/
theorem below_of {w w' : World} (h : (w'.os = w.os ∧ w'.tape = w.tape ∧ w'.output = w.output) ∧ w.heap.size ≤ w'.heap.size ∧ ∀ b, b < w.heap.size → w'.heap[b]? = w.heap[b]?) : Below w.heap.size w w' :=
  ⟨h.1.1, h.1.2.1, h.1.2.2, h.2.1, h.2.2⟩

/-- A law, called at the start: it returns true, and leaves all as it was. -/
theorem law_run {f : Nat} {As : List En} {T T' : Tabs} (hS : Spec P f As T (.kv .bool true) T') (hT : ∀ t tab, T t = some tab → tab.xs.length = 0) {args : List Value} (hA : All2 (EnR (Gh.start w)) As args) :
    Calls P f args.toArray w fun e w' => e = .returned (.bool true) ∧ Below w.heap.size w w' := by
  refine (hS.start hT hA).mono ?_
  intro e w' hp
  cases e with
  | returned v =>
    obtain ⟨⟨G, hv⟩, hb⟩ := hp
    refine ⟨?_, below_of hb⟩
    have : [v] = [.bool true] := hv
    simpa using this
  | panicked c => exact hp.elim
  | outgrown => exact hp.elim
end
end Go.Proofs.Ytlfemhkabjafeaa.M

/- Printed by own program: twins and walks. -/
set_option linter.unusedVariables false
set_option maxRecDepth 100000
namespace Go.Proofs.Ytlfemhkabjafeaa.M
abbrev K52 : Kd := .pair .str (.pair .str (.pair .str .unit))
abbrev K31 : Kd := .pair .i (.pair .str (.pair .str (.pair .str (.pair .i (.pair (.list .i) .unit)))))
abbrev K47 : Kd := .pair .i (.pair (.list K52) (.pair .i (.pair .bool .unit)))
abbrev K67 : Kd := .pair .i (.pair .str .unit)
abbrev K80 : Kd := .pair .i (.pair .i (.pair .str (.pair (.list .i) .unit)))
abbrev K97 : Kd := .pair .i (.pair .str (.pair .i (.pair (.list .i) .unit)))
abbrev K108 : Kd := .pair .str (.pair .i .unit)
abbrev K116 : Kd := .pair (.ptr 105) (.pair .str .unit)
abbrev K145 : Kd := .pair (.int .u8) (.pair (.int .u8) (.pair (.int .u8) (.pair (.int .u8) (.pair (.int .u8) (.pair (.int .u8) (.pair (.int .u8) (.pair (.int .u8) (.pair (.int .u8) (.pair (.int .u8) .unit)))))))))
abbrev fs47 : List Fk := [.p .i, .p (.list K52), .p .i, .p .bool]
abbrev fs52 : List Fk := [.p .str, .p .str, .p .str]
abbrev fs105 : List Fk := [.p .i, .omap .str (.ptr 108), .p .i, .p .bool]
abbrev fs108 : List Fk := [.p .str, .p .i]
abbrev fs116 : List Fk := [.p (.ptr 105), .p .str]
abbrev fs128 : List Fk := [.p (.ptr 105), .p .str, .p .i, .own 131 8 (.ptr 130), .p .i]
abbrev fs130 : List Fk := [.p .i, .own 9 16 .str, .p .i]
abbrev fs100003 : List Fk := [.p .i]
abbrev fs100009 : List Fk := [.p .str]
abbrev fs100024 : List Fk := [.p (.ptr 105)]
abbrev fs100106 : List Fk := [.p (.ptr 108)]
structure St where
  t47 : List (denFs fs47)
  t52 : List (denFs fs52)
  t105 : List (denFs fs105)
  t108 : List (denFs fs108)
  t116 : List (denFs fs116)
  t128 : List (denFs fs128)
  t130 : List (denFs fs130)
  t100003 : List (denFs fs100003)
  t100009 : List (denFs fs100009)
  t100024 : List (denFs fs100024)
  t100106 : List (denFs fs100106)
def tabs (s : St) : Tabs := fun t => if t = 47 then some ⟨fs47, s.t47⟩ else if t = 52 then some ⟨fs52, s.t52⟩ else if t = 105 then some ⟨fs105, s.t105⟩ else if t = 108 then some ⟨fs108, s.t108⟩ else if t = 116 then some ⟨fs116, s.t116⟩ else if t = 128 then some ⟨fs128, s.t128⟩ else if t = 130 then some ⟨fs130, s.t130⟩ else if t = 100003 then some ⟨fs100003, s.t100003⟩ else if t = 100009 then some ⟨fs100009, s.t100009⟩ else if t = 100024 then some ⟨fs100024, s.t100024⟩ else if t = 100106 then some ⟨fs100106, s.t100106⟩ else none
def St.set47 (s : St) (i : Nat) (x : denFs fs47) : St := { s with t47 := s.t47.set i x }
theorem set47_get {s : St} {i : Nat} {o x : denFs fs47} (h : s.t47[i]? = some o) : (s.set47 i x).t47[i]? = some x := by simp [St.set47, (List.getElem?_eq_some_iff.1 h).1]
def St.add47 (s : St) (x : denFs fs47) : St := { s with t47 := s.t47 ++ [x] }
theorem got47 {s : St} {x : denFs fs47} : (s.add47 x).t47[s.t47.length]? = some x := by simp [St.add47]
theorem addT47 {s : St} {x : denFs fs47} : AddT (tabs s) (tabs (s.add47 x)) 47 s.t47.length fs47 x := ⟨s.t47, rfl, rfl, rfl, fun t h => by simp [tabs, St.add47, h]⟩
theorem ob47 {s : St} {i : Nat} {x : denFs fs47} (h : s.t47[i]? = some x) : ObAt (tabs s) 47 i fs47 x := ⟨s.t47, rfl, h⟩
theorem upd47 {s : St} {i : Nat} {x : denFs fs47} : UpdT (tabs s) (tabs (s.set47 i x)) 47 i fs47 x := ⟨⟨s.t47, rfl, rfl⟩, fun t h => by simp [tabs, St.set47, h]⟩
def St.set52 (s : St) (i : Nat) (x : denFs fs52) : St := { s with t52 := s.t52.set i x }
theorem set52_get {s : St} {i : Nat} {o x : denFs fs52} (h : s.t52[i]? = some o) : (s.set52 i x).t52[i]? = some x := by simp [St.set52, (List.getElem?_eq_some_iff.1 h).1]
def St.add52 (s : St) (x : denFs fs52) : St := { s with t52 := s.t52 ++ [x] }
theorem got52 {s : St} {x : denFs fs52} : (s.add52 x).t52[s.t52.length]? = some x := by simp [St.add52]
theorem addT52 {s : St} {x : denFs fs52} : AddT (tabs s) (tabs (s.add52 x)) 52 s.t52.length fs52 x := ⟨s.t52, rfl, rfl, rfl, fun t h => by simp [tabs, St.add52, h]⟩
theorem ob52 {s : St} {i : Nat} {x : denFs fs52} (h : s.t52[i]? = some x) : ObAt (tabs s) 52 i fs52 x := ⟨s.t52, rfl, h⟩
theorem upd52 {s : St} {i : Nat} {x : denFs fs52} : UpdT (tabs s) (tabs (s.set52 i x)) 52 i fs52 x := ⟨⟨s.t52, rfl, rfl⟩, fun t h => by simp [tabs, St.set52, h]⟩
def St.set105 (s : St) (i : Nat) (x : denFs fs105) : St := { s with t105 := s.t105.set i x }
theorem set105_get {s : St} {i : Nat} {o x : denFs fs105} (h : s.t105[i]? = some o) : (s.set105 i x).t105[i]? = some x := by simp [St.set105, (List.getElem?_eq_some_iff.1 h).1]
def St.add105 (s : St) (x : denFs fs105) : St := { s with t105 := s.t105 ++ [x] }
theorem got105 {s : St} {x : denFs fs105} : (s.add105 x).t105[s.t105.length]? = some x := by simp [St.add105]
theorem addT105 {s : St} {x : denFs fs105} : AddT (tabs s) (tabs (s.add105 x)) 105 s.t105.length fs105 x := ⟨s.t105, rfl, rfl, rfl, fun t h => by simp [tabs, St.add105, h]⟩
theorem ob105 {s : St} {i : Nat} {x : denFs fs105} (h : s.t105[i]? = some x) : ObAt (tabs s) 105 i fs105 x := ⟨s.t105, rfl, h⟩
theorem upd105 {s : St} {i : Nat} {x : denFs fs105} : UpdT (tabs s) (tabs (s.set105 i x)) 105 i fs105 x := ⟨⟨s.t105, rfl, rfl⟩, fun t h => by simp [tabs, St.set105, h]⟩
def St.set108 (s : St) (i : Nat) (x : denFs fs108) : St := { s with t108 := s.t108.set i x }
theorem set108_get {s : St} {i : Nat} {o x : denFs fs108} (h : s.t108[i]? = some o) : (s.set108 i x).t108[i]? = some x := by simp [St.set108, (List.getElem?_eq_some_iff.1 h).1]
def St.add108 (s : St) (x : denFs fs108) : St := { s with t108 := s.t108 ++ [x] }
theorem got108 {s : St} {x : denFs fs108} : (s.add108 x).t108[s.t108.length]? = some x := by simp [St.add108]
theorem addT108 {s : St} {x : denFs fs108} : AddT (tabs s) (tabs (s.add108 x)) 108 s.t108.length fs108 x := ⟨s.t108, rfl, rfl, rfl, fun t h => by simp [tabs, St.add108, h]⟩
theorem ob108 {s : St} {i : Nat} {x : denFs fs108} (h : s.t108[i]? = some x) : ObAt (tabs s) 108 i fs108 x := ⟨s.t108, rfl, h⟩
theorem upd108 {s : St} {i : Nat} {x : denFs fs108} : UpdT (tabs s) (tabs (s.set108 i x)) 108 i fs108 x := ⟨⟨s.t108, rfl, rfl⟩, fun t h => by simp [tabs, St.set108, h]⟩
def St.set116 (s : St) (i : Nat) (x : denFs fs116) : St := { s with t116 := s.t116.set i x }
theorem set116_get {s : St} {i : Nat} {o x : denFs fs116} (h : s.t116[i]? = some o) : (s.set116 i x).t116[i]? = some x := by simp [St.set116, (List.getElem?_eq_some_iff.1 h).1]
def St.add116 (s : St) (x : denFs fs116) : St := { s with t116 := s.t116 ++ [x] }
theorem got116 {s : St} {x : denFs fs116} : (s.add116 x).t116[s.t116.length]? = some x := by simp [St.add116]
theorem addT116 {s : St} {x : denFs fs116} : AddT (tabs s) (tabs (s.add116 x)) 116 s.t116.length fs116 x := ⟨s.t116, rfl, rfl, rfl, fun t h => by simp [tabs, St.add116, h]⟩
theorem ob116 {s : St} {i : Nat} {x : denFs fs116} (h : s.t116[i]? = some x) : ObAt (tabs s) 116 i fs116 x := ⟨s.t116, rfl, h⟩
theorem upd116 {s : St} {i : Nat} {x : denFs fs116} : UpdT (tabs s) (tabs (s.set116 i x)) 116 i fs116 x := ⟨⟨s.t116, rfl, rfl⟩, fun t h => by simp [tabs, St.set116, h]⟩
def St.set128 (s : St) (i : Nat) (x : denFs fs128) : St := { s with t128 := s.t128.set i x }
theorem set128_get {s : St} {i : Nat} {o x : denFs fs128} (h : s.t128[i]? = some o) : (s.set128 i x).t128[i]? = some x := by simp [St.set128, (List.getElem?_eq_some_iff.1 h).1]
def St.add128 (s : St) (x : denFs fs128) : St := { s with t128 := s.t128 ++ [x] }
theorem got128 {s : St} {x : denFs fs128} : (s.add128 x).t128[s.t128.length]? = some x := by simp [St.add128]
theorem addT128 {s : St} {x : denFs fs128} : AddT (tabs s) (tabs (s.add128 x)) 128 s.t128.length fs128 x := ⟨s.t128, rfl, rfl, rfl, fun t h => by simp [tabs, St.add128, h]⟩
theorem ob128 {s : St} {i : Nat} {x : denFs fs128} (h : s.t128[i]? = some x) : ObAt (tabs s) 128 i fs128 x := ⟨s.t128, rfl, h⟩
theorem upd128 {s : St} {i : Nat} {x : denFs fs128} : UpdT (tabs s) (tabs (s.set128 i x)) 128 i fs128 x := ⟨⟨s.t128, rfl, rfl⟩, fun t h => by simp [tabs, St.set128, h]⟩
def St.set130 (s : St) (i : Nat) (x : denFs fs130) : St := { s with t130 := s.t130.set i x }
theorem set130_get {s : St} {i : Nat} {o x : denFs fs130} (h : s.t130[i]? = some o) : (s.set130 i x).t130[i]? = some x := by simp [St.set130, (List.getElem?_eq_some_iff.1 h).1]
def St.add130 (s : St) (x : denFs fs130) : St := { s with t130 := s.t130 ++ [x] }
theorem got130 {s : St} {x : denFs fs130} : (s.add130 x).t130[s.t130.length]? = some x := by simp [St.add130]
theorem addT130 {s : St} {x : denFs fs130} : AddT (tabs s) (tabs (s.add130 x)) 130 s.t130.length fs130 x := ⟨s.t130, rfl, rfl, rfl, fun t h => by simp [tabs, St.add130, h]⟩
theorem ob130 {s : St} {i : Nat} {x : denFs fs130} (h : s.t130[i]? = some x) : ObAt (tabs s) 130 i fs130 x := ⟨s.t130, rfl, h⟩
theorem upd130 {s : St} {i : Nat} {x : denFs fs130} : UpdT (tabs s) (tabs (s.set130 i x)) 130 i fs130 x := ⟨⟨s.t130, rfl, rfl⟩, fun t h => by simp [tabs, St.set130, h]⟩
def St.set100003 (s : St) (i : Nat) (x : denFs fs100003) : St := { s with t100003 := s.t100003.set i x }
theorem set100003_get {s : St} {i : Nat} {o x : denFs fs100003} (h : s.t100003[i]? = some o) : (s.set100003 i x).t100003[i]? = some x := by simp [St.set100003, (List.getElem?_eq_some_iff.1 h).1]
def St.add100003 (s : St) (x : denFs fs100003) : St := { s with t100003 := s.t100003 ++ [x] }
theorem got100003 {s : St} {x : denFs fs100003} : (s.add100003 x).t100003[s.t100003.length]? = some x := by simp [St.add100003]
theorem addT100003 {s : St} {x : denFs fs100003} : AddT (tabs s) (tabs (s.add100003 x)) 100003 s.t100003.length fs100003 x := ⟨s.t100003, rfl, rfl, rfl, fun t h => by simp [tabs, St.add100003, h]⟩
theorem ob100003 {s : St} {i : Nat} {x : denFs fs100003} (h : s.t100003[i]? = some x) : ObAt (tabs s) 100003 i fs100003 x := ⟨s.t100003, rfl, h⟩
theorem upd100003 {s : St} {i : Nat} {x : denFs fs100003} : UpdT (tabs s) (tabs (s.set100003 i x)) 100003 i fs100003 x := ⟨⟨s.t100003, rfl, rfl⟩, fun t h => by simp [tabs, St.set100003, h]⟩
def St.set100009 (s : St) (i : Nat) (x : denFs fs100009) : St := { s with t100009 := s.t100009.set i x }
theorem set100009_get {s : St} {i : Nat} {o x : denFs fs100009} (h : s.t100009[i]? = some o) : (s.set100009 i x).t100009[i]? = some x := by simp [St.set100009, (List.getElem?_eq_some_iff.1 h).1]
def St.add100009 (s : St) (x : denFs fs100009) : St := { s with t100009 := s.t100009 ++ [x] }
theorem got100009 {s : St} {x : denFs fs100009} : (s.add100009 x).t100009[s.t100009.length]? = some x := by simp [St.add100009]
theorem addT100009 {s : St} {x : denFs fs100009} : AddT (tabs s) (tabs (s.add100009 x)) 100009 s.t100009.length fs100009 x := ⟨s.t100009, rfl, rfl, rfl, fun t h => by simp [tabs, St.add100009, h]⟩
theorem ob100009 {s : St} {i : Nat} {x : denFs fs100009} (h : s.t100009[i]? = some x) : ObAt (tabs s) 100009 i fs100009 x := ⟨s.t100009, rfl, h⟩
theorem upd100009 {s : St} {i : Nat} {x : denFs fs100009} : UpdT (tabs s) (tabs (s.set100009 i x)) 100009 i fs100009 x := ⟨⟨s.t100009, rfl, rfl⟩, fun t h => by simp [tabs, St.set100009, h]⟩
def St.set100024 (s : St) (i : Nat) (x : denFs fs100024) : St := { s with t100024 := s.t100024.set i x }
theorem set100024_get {s : St} {i : Nat} {o x : denFs fs100024} (h : s.t100024[i]? = some o) : (s.set100024 i x).t100024[i]? = some x := by simp [St.set100024, (List.getElem?_eq_some_iff.1 h).1]
def St.add100024 (s : St) (x : denFs fs100024) : St := { s with t100024 := s.t100024 ++ [x] }
theorem got100024 {s : St} {x : denFs fs100024} : (s.add100024 x).t100024[s.t100024.length]? = some x := by simp [St.add100024]
theorem addT100024 {s : St} {x : denFs fs100024} : AddT (tabs s) (tabs (s.add100024 x)) 100024 s.t100024.length fs100024 x := ⟨s.t100024, rfl, rfl, rfl, fun t h => by simp [tabs, St.add100024, h]⟩
theorem ob100024 {s : St} {i : Nat} {x : denFs fs100024} (h : s.t100024[i]? = some x) : ObAt (tabs s) 100024 i fs100024 x := ⟨s.t100024, rfl, h⟩
theorem upd100024 {s : St} {i : Nat} {x : denFs fs100024} : UpdT (tabs s) (tabs (s.set100024 i x)) 100024 i fs100024 x := ⟨⟨s.t100024, rfl, rfl⟩, fun t h => by simp [tabs, St.set100024, h]⟩
def St.set100106 (s : St) (i : Nat) (x : denFs fs100106) : St := { s with t100106 := s.t100106.set i x }
theorem set100106_get {s : St} {i : Nat} {o x : denFs fs100106} (h : s.t100106[i]? = some o) : (s.set100106 i x).t100106[i]? = some x := by simp [St.set100106, (List.getElem?_eq_some_iff.1 h).1]
def St.add100106 (s : St) (x : denFs fs100106) : St := { s with t100106 := s.t100106 ++ [x] }
theorem got100106 {s : St} {x : denFs fs100106} : (s.add100106 x).t100106[s.t100106.length]? = some x := by simp [St.add100106]
theorem addT100106 {s : St} {x : denFs fs100106} : AddT (tabs s) (tabs (s.add100106 x)) 100106 s.t100106.length fs100106 x := ⟨s.t100106, rfl, rfl, rfl, fun t h => by simp [tabs, St.add100106, h]⟩
theorem ob100106 {s : St} {i : Nat} {x : denFs fs100106} (h : s.t100106[i]? = some x) : ObAt (tabs s) 100106 i fs100106 x := ⟨s.t100106, rfl, h⟩
theorem upd100106 {s : St} {i : Nat} {x : denFs fs100106} : UpdT (tabs s) (tabs (s.set100106 i x)) 100106 i fs100106 x := ⟨⟨s.t100106, rfl, rfl⟩, fun t h => by simp [tabs, St.set100106, h]⟩
end Go.Proofs.Ytlfemhkabjafeaa.M

/- Own library: the empty tables of a start, and what the readings tell of numbers and texts. -/
set_option linter.unusedVariables false
namespace Go.Proofs.Ytlfemhkabjafeaa.M

/-- The tables at the start. -/
def St.none : St := ⟨[], [], [], [], [], [], [], [], [], [], []⟩

theorem St.none_tabs : ∀ t tab, tabs St.none t = some tab → tab.xs.length = 0 := by
  intro t tab h
  unfold tabs at h
  repeat' split at h
  all_goals first
    | (simp only [Option.some.injEq] at h; subst h; rfl)
    | cases h

theorem wf_i64 {n : Int} (h : (Lit.int .i64 n).wf = true) : -9223372036854775808 ≤ n ∧ n < 9223372036854775808 := by
  simp only [Lit.wf, Bool.and_eq_true, decide_eq_true_eq] at h
  have h1 : IntKind.i64.min = -9223372036854775808 := by decide
  have h2 : IntKind.i64.max = 9223372036854775807 := by decide
  rw [h1, h2] at h
  omega

theorem wf_u16 {n : Int} (h : (Lit.int .u16 n).wf = true) : 0 ≤ n ∧ n < 65536 := by
  simp only [Lit.wf, Bool.and_eq_true, decide_eq_true_eq] at h
  have h1 : IntKind.u16.min = 0 := by decide
  have h2 : IntKind.u16.max = 65535 := by decide
  rw [h1, h2] at h
  omega

theorem wf_u8 {n : Int} (h : (Lit.int .u8 n).wf = true) : 0 ≤ n ∧ n < 256 := by
  simp only [Lit.wf, Bool.and_eq_true, decide_eq_true_eq] at h
  have h1 : IntKind.u8.min = 0 := by decide
  have h2 : IntKind.u8.max = 255 := by decide
  rw [h1, h2] at h
  omega
end Go.Proofs.Ytlfemhkabjafeaa.M

/- Printed by own program: twins and walks. -/
set_option linter.unusedVariables false
set_option maxRecDepth 100000
namespace Go.Proofs.Ytlfemhkabjafeaa.M
open Go.Proofs (Try.prog Try.func70 Try.f70 Try.func71 Try.f71 Try.func77 Try.f77 Try.func30 Try.f30 Try.func28 Try.f28 Try.func31 Try.f31 Try.func32 Try.f32 Try.func78 Try.f78 Try.func79 Try.f79 Try.func80 Try.f80 Try.func81 Try.f81 Try.func73 Try.f73 Try.func72 Try.f72 Try.func33 Try.f33 Try.func35 Try.f35 Try.func36 Try.f36 Try.func37 Try.f37 Try.func18 Try.f18)

def f70 (p0 : Option Nat) (σ : St) : Option Int :=
  if p0.isNone = true then
  some 1
  else
  p0 >>= fun i6 =>
  (σ.t105[i6]?) >>= fun o7 =>
  if o7.2.2.2.1 = true then
  some 11
  else
  some 0

theorem f70_ok {p0 : Option Nat} {σ : St} {p : Int} (h : f70 p0 σ = some p) : Spec Try.prog 70 [.kv (.ptr 105) p0] (tabs σ) (.kv .i p) (tabs σ) := by
  refine Spec.intro Try.func70 (by kernel_rfl) rfl (by kernel_rfl) (fun a w G0 Ls hE hH hN => ?_)
  have hle : G0.le G0 := Gh.le_refl G0
  unfold f70 at h
  refine wp_seq_k (fun K hK1 => ?_)
  refine wp_region_from ?_
  refine segO 1 [] [(2, .kv .i 0)] (Os := []) trivial hE hH (by kernel_rfl) (fun a hE => ?_)
  refine wpFrom_end (by kernel_rfl) ?_
  refine Exit.then_normal (hK1 _ _ ?_)
  refine wp_seq_k (fun K hK2 => ?_)
  refine wp_block ?_
  refine wp_seq_k (fun K hK3 => ?_)
  refine wp_region_from ?_
  refine segO 3 [] [(3, .kv .bool p0.isNone)] (Os := []) trivial hE hH (by kernel_rfl) (fun a hE => ?_)
  refine wpFrom_end (by kernel_rfl) ?_
  refine Exit.then_normal (hK3 _ _ ?_)
  refine condE (b := p0.isNone) hE (by kernel_rfl) (fun hc => ?_) (fun hc => ?_)
  · replace h := ifT hc h
    refine wp_seq_k (fun K hK4 => ?_)
    refine wp_region_from ?_
    refine segO 1 [] [(2, .kv .i 1)] (Os := []) trivial hE hH (by kernel_rfl) (fun a hE => ?_)
    refine wpFrom_end (by kernel_rfl) ?_
    refine Exit.then_normal (hK4 _ _ ?_)
    refine wp_ret ?_
    refine Exit.in_ret ?_
    refine Exit.then_ret ?_
    cases h
    exact ret1 rfl hE hle hH (by kernel_rfl)
  · replace h := ifF hc h
    refine wp_seq_k (fun K hK5 => ?_)
    refine wp_region_from ?_
    obtain ⟨i6, hi6, h⟩ := bs h
    obtain ⟨o7, ho7, h⟩ := bs h
    refine segO 5 [.pt i6, .ob fs105 o7] [(6, .kv .bool o7.2.2.2.1)] (Os := [_, _]) ⟨hi6, (ob105 (s := σ) ho7), trivial⟩ hE hH (by kernel_rfl) (fun a hE => ?_)
    refine wpFrom_end (by kernel_rfl) ?_
    refine Exit.then_normal (hK5 _ _ ?_)
    refine condE (b := o7.2.2.2.1) hE (by kernel_rfl) (fun hc => ?_) (fun hc => ?_)
    · replace h := ifT hc h
      refine wp_seq_k (fun K hK8 => ?_)
      refine wp_region_from ?_
      refine segO 1 [] [(2, .kv .i 11)] (Os := []) trivial hE hH (by kernel_rfl) (fun a hE => ?_)
      refine wpFrom_end (by kernel_rfl) ?_
      refine Exit.then_normal (hK8 _ _ ?_)
      refine wp_ret ?_
      refine Exit.in_ret ?_
      refine Exit.then_ret ?_
      cases h
      exact ret1 rfl hE hle hH (by kernel_rfl)
    · replace h := ifF hc h
      refine wp_skip ?_
      refine Exit.in_normal ?_
      refine Exit.then_normal (hK2 _ _ ?_)
      refine wp_seq_k (fun K hK9 => ?_)
      refine wp_region_from ?_
      refine segO 1 [] [(2, .kv .i 0)] (Os := []) trivial hE hH (by kernel_rfl) (fun a hE => ?_)
      refine wpFrom_end (by kernel_rfl) ?_
      refine Exit.then_normal (hK9 _ _ ?_)
      refine wp_ret ?_
      cases h
      exact ret1 rfl hE hle hH (by kernel_rfl)

def f71_l0 (p0 : List UInt8) (x4 : Int) : Option (Sum Int Bool) :=
  if (decide (x4 < (p0.length : Int))) = true then
  if (0 : Int) ≤ x4 ∧ x4 < (p0.length : Int) then
  if ((((((decide ((btS p0 x4) < 97)) || (decide ((btS p0 x4) > 122))) && ((decide ((btS p0 x4) < 48)) || (decide ((btS p0 x4) > 57)))) && ((btS p0 x4) != 46)) && ((btS p0 x4) != 45)) && ((btS p0 x4) != 95)) = true then
  some (.inr false)
  else
  f71_l0 p0 (IntKind.wrap .i64 (x4 + 1))
  else none
  else
  some (.inl x4)
  partial_fixpoint

def f71 (p0 : List UInt8) : Option Bool :=
  f71_l0 p0 0 >>= fun rr18 => (match rr18 with
  | .inr yy => some yy
  | .inl z17 =>
  some ((decide ((p0.length : Int) > 0)) && (decide ((p0.length : Int) ≤ 24))))

theorem f71_ok {p0 : List UInt8} {σ : St} {p : Bool} (h : f71 p0 = some p) : Spec Try.prog 71 [.kv .str p0] (tabs σ) (.kv .bool p) (tabs σ) := by
  refine Spec.intro Try.func71 (by kernel_rfl) rfl (by kernel_rfl) (fun a w G0 Ls hE hH hN => ?_)
  have hle : G0.le G0 := Gh.le_refl G0
  unfold f71 at h
  refine wp_seq_k (fun K hK1 => ?_)
  refine wp_region_from ?_
  refine segO 1 [] [(2, .kv .bool false)] (Os := []) trivial hE hH (by kernel_rfl) (fun a hE => ?_)
  refine wpFrom_end (by kernel_rfl) ?_
  refine Exit.then_normal (hK1 _ _ ?_)
  refine wp_seq_k (fun K hK2 => ?_)
  refine wp_seq_k (fun K hK3 => ?_)
  refine wp_region_from ?_
  refine segO 3 [] [(6, .kv .i (p0.length : Int)), (7, .kv .i 0)] (Os := []) trivial hE hH (by kernel_rfl) (fun a hE => ?_)
  refine wpFrom_end (by kernel_rfl) ?_
  refine Exit.then_normal (hK3 _ _ ?_)
  refine wp_block ?_
  obtain ⟨rr18, hrr18, h⟩ := bs h
  refine loop_intro (fun Q5 c hQ hc => ?_)
  have key : ∀ (x4 : Int) (rr : Sum Int Bool), f71_l0 p0 x4 = some rr → ∀ (a : Act) (w : World) (G : Gh), G0.le G → EnvR G 48 a [(0, .kv .str p0), (2, .kv .bool false), (6, .kv .i (p0.length : Int)), (7, .kv .i x4)] → Holds w G (tabs σ) (Ls) → (∀ z17 : Int, rr = .inl z17 → ∀ (a : Act) (w : World) (G : Gh), G0.le G → EnvR G 48 a [(0, .kv .str p0), (2, .kv .bool false), (6, .kv .i (p0.length : Int)), (7, .kv .i z17)] → Holds w G (tabs σ) (Ls) → Q5 (.exit 0) a w) → (∀ yy : Bool, rr = .inr yy → ∀ (a : Act) (w : World), PostB Try.prog Try.f71 G0 (.kv .bool yy) (tabs σ) Ls .ret a w → Q5 .ret a w) → Rnd Try.prog c Q5 a w := by
    refine f71_l0.partial_correctness p0 _ ?_
    intro self ih8 x4 rr h a w G  hle hE hH hx6 hret7
    refine rnd_step' hc ?_
    refine wp_seq_k (fun K hK9 => ?_)
    refine wp_region_from ?_
    refine segO 1 [] [(8, .kv .bool (decide (x4 < (p0.length : Int))))] (Os := []) trivial hE hH (by kernel_rfl) (fun a hE => ?_)
    refine wpFrom_end (by kernel_rfl) ?_
    refine Exit.then_normal (hK9 _ _ ?_)
    refine wp_seq_k (fun K hK10 => ?_)
    refine condE (b := decide (x4 < (p0.length : Int))) hE (by kernel_rfl) (fun hc => ?_) (fun hc => ?_)
    · replace h := ifT hc h
      refine wp_skip ?_
      refine Exit.then_normal (hK10 _ _ ?_)
      refine wp_seq_k (fun K hK11 => ?_)
      refine wp_block ?_
      refine wp_seq_k (fun K hK12 => ?_)
      refine wp_region_from ?_
      refine segO 2 [] [(3, .kv .i x4)] (Os := []) trivial hE hH (by kernel_rfl) (fun a hE => ?_)
      refine wpFrom_end (by kernel_rfl) ?_
      refine Exit.then_normal (hK12 _ _ ?_)
      refine wp_seq_k (fun K hK13 => ?_)
      refine wp_region_from ?_
      obtain ⟨q14, h⟩ := gd h
      refine segO 4 [] [(4, .kv (.int .u8) (btS p0 x4))] (Os := [_]) ⟨q14, trivial⟩ hE hH (by kernel_rfl) (fun a hE => ?_)
      refine wpFrom_end (by kernel_rfl) ?_
      refine Exit.then_normal (hK13 _ _ ?_)
      refine wp_seq_k (fun K hK15 => ?_)
      refine wp_region_from ?_
      refine segO 26 [] [(38, .kv .bool ((((((decide ((btS p0 x4) < 97)) || (decide ((btS p0 x4) > 122))) && ((decide ((btS p0 x4) < 48)) || (decide ((btS p0 x4) > 57)))) && ((btS p0 x4) != 46)) && ((btS p0 x4) != 45)) && ((btS p0 x4) != 95)))] (Os := []) trivial hE hH (by kernel_rfl) (fun a hE => ?_)
      refine wpFrom_end (by kernel_rfl) ?_
      refine Exit.then_normal (hK15 _ _ ?_)
      refine condE (b := (((((decide ((btS p0 x4) < 97)) || (decide ((btS p0 x4) > 122))) && ((decide ((btS p0 x4) < 48)) || (decide ((btS p0 x4) > 57)))) && ((btS p0 x4) != 46)) && ((btS p0 x4) != 45)) && ((btS p0 x4) != 95)) hE (by kernel_rfl) (fun hc => ?_) (fun hc => ?_)
      · replace h := ifT hc h
        refine wp_seq_k (fun K hK16 => ?_)
        refine wp_region_from ?_
        refine segO 1 [] [(2, .kv .bool false)] (Os := []) trivial hE hH (by kernel_rfl) (fun a hE => ?_)
        refine wpFrom_end (by kernel_rfl) ?_
        refine Exit.then_normal (hK16 _ _ ?_)
        refine wp_ret ?_
        refine Exit.in_ret ?_
        refine Exit.then_ret ?_
        refine Exit.then_ret ?_
        cases h
        exact hret7 _ rfl _ _ (ret1 rfl hE hle hH (by kernel_rfl))
      · replace h := ifF hc h
        refine wp_skip ?_
        refine Exit.in_normal ?_
        refine Exit.then_normal (hK11 _ _ ?_)
        refine wp_region_from ?_
        refine segO 2 [] [(7, .kv .i (IntKind.wrap .i64 (x4 + 1)))] (Os := []) trivial hE hH (by kernel_rfl) (fun a hE => ?_)
        refine wpFrom_end (by kernel_rfl) ?_
        refine Exit.then_normal ?_
        exact ih8 _ _ h _ _ _  hle (hE.subC (by kernel_rfl)) hH hx6 hret7
    · replace h := ifF hc h
      refine wp_exit ?_
      refine Exit.then_exit ?_
      refine Exit.then_exit ?_
      cases h
      exact hx6 _ rfl _ _ _  hle (hE.subC (by kernel_rfl)) hH
  refine key _ _ hrr18 _ _ _  hle (hE.subC (by kernel_rfl)) hH ?_ ?_
  · intro z17 hz a w G  hle hE hH
    subst hz
    rw [hQ]
    dsimp only at h
    refine Exit.in_eq ?_
    refine Exit.then_normal (hK2 _ _ ?_)
    refine wp_seq_k (fun K hK19 => ?_)
    refine wp_region_from ?_
    refine segO 9 [] [(2, .kv .bool ((decide ((p0.length : Int) > 0)) && (decide ((p0.length : Int) ≤ 24))))] (Os := []) trivial hE hH (by kernel_rfl) (fun a hE => ?_)
    refine wpFrom_end (by kernel_rfl) ?_
    refine Exit.then_normal (hK19 _ _ ?_)
    refine wp_ret ?_
    cases h
    exact ret1 rfl hE hle hH (by kernel_rfl)
  · intro yy hz a w hp
    subst hz
    dsimp only at h
    cases h
    rw [hQ]
    refine Exit.in_ret ?_
    refine Exit.then_ret ?_
    exact hp

def f77 (p0 : Option Nat) (p1 : List UInt8) (σ : St) : Option ((Option Nat) × Int) :=
  f70 p0 σ >>= fun r4 =>
  if (r4 != 0) = true then
  some (none, r4)
  else
  p0 >>= fun i8 =>
  (σ.t105[i8]?) >>= fun o9 =>
  if (((mapGet .str (.ptr 108) p1 o9.2.1).getD (zeroK (.ptr 108))).isNone) = true then
  some (none, 8)
  else
  some ((mapGet .str (.ptr 108) p1 o9.2.1).getD (zeroK (.ptr 108)), 0)

theorem f77_ok {p0 : Option Nat} {p1 : List UInt8} {σ : St} {p : (Option Nat) × Int} (h : f77 p0 p1 σ = some p) : Spec Try.prog 77 [.kv (.ptr 105) p0, .kv .str p1] (tabs σ) (.tup [⟨(.ptr 108), p.1⟩, ⟨.i, p.2⟩]) (tabs σ) := by
  refine Spec.intro Try.func77 (by kernel_rfl) rfl (by kernel_rfl) (fun a w G0 Ls hE hH hN => ?_)
  have hle : G0.le G0 := Gh.le_refl G0
  unfold f77 at h
  refine wp_seq_k (fun K hK1 => ?_)
  refine wp_region_from ?_
  refine segO 2 [] [(4, .val (.pointer none)), (5, .kv .i 0)] (Os := []) trivial hE hH (by kernel_rfl) (fun a hE => ?_)
  refine wpFrom_end (by kernel_rfl) ?_
  refine Exit.then_normal (hK1 _ _ ?_)
  refine wp_seq_k (fun K hK2 => ?_)
  refine wp_seq_k (fun K hK3 => ?_)
  refine wp_region_from ?_
  refine segO 1 [] [(8, .kv (.ptr 105) p0)] (Os := []) trivial hE hH (by kernel_rfl) (fun a hE => ?_)
  obtain ⟨r4, hr4, h⟩ := bs h
  refine stepCall (d := (some 9)) (f70_ok hr4) hE hH hN (by kernel_rfl) (by kernel_rfl) trivial (fun a w G hl1 hE hH => ?_)
  have hle := Gh.le_trans hle hl1
  refine segO 1 [] [(6, .kv .i r4)] (Os := []) trivial hE hH (by kernel_rfl) (fun a hE => ?_)
  refine wpFrom_end (by kernel_rfl) ?_
  refine Exit.then_normal (hK3 _ _ ?_)
  refine wp_seq_k (fun K hK5 => ?_)
  refine wp_region_from ?_
  refine segO 2 [] [(11, .kv .bool (r4 != 0))] (Os := []) trivial hE hH (by kernel_rfl) (fun a hE => ?_)
  refine wpFrom_end (by kernel_rfl) ?_
  refine Exit.then_normal (hK5 _ _ ?_)
  refine condE (b := r4 != 0) hE (by kernel_rfl) (fun hc => ?_) (fun hc => ?_)
  · replace h := ifT hc h
    refine wp_seq_k (fun K hK6 => ?_)
    refine wp_region_from ?_
    refine segO 3 [] [(4, .val (.pointer none)), (5, .kv .i r4)] (Os := []) trivial hE hH (by kernel_rfl) (fun a hE => ?_)
    refine wpFrom_end (by kernel_rfl) ?_
    refine Exit.then_normal (hK6 _ _ ?_)
    refine wp_ret ?_
    refine Exit.then_ret ?_
    cases h
    exact ret2 rfl hE hle hH (by kernel_rfl)
  · replace h := ifF hc h
    refine wp_skip ?_
    refine Exit.then_normal (hK2 _ _ ?_)
    refine wp_seq_k (fun K hK7 => ?_)
    refine wp_region_from ?_
    obtain ⟨i8, hi8, h⟩ := bs h
    obtain ⟨o9, ho9, h⟩ := bs h
    refine segO 7 [.pt i8, .ob fs105 o9, .ob fs105 o9] [(7, .kv (.ptr 108) ((mapGet .str (.ptr 108) p1 o9.2.1).getD (zeroK (.ptr 108))))] (Os := [_, _, _]) ⟨hi8, (ob105 (s := σ) ho9), (ob105 (s := σ) ho9), trivial⟩ hE hH (by kernel_rfl) (fun a hE => ?_)
    refine wpFrom_end (by kernel_rfl) ?_
    refine Exit.then_normal (hK7 _ _ ?_)
    refine wp_seq_k (fun K hK10 => ?_)
    refine wp_seq_k (fun K hK11 => ?_)
    refine wp_region_from ?_
    refine segO 2 [] [(20, .kv .bool (((mapGet .str (.ptr 108) p1 o9.2.1).getD (zeroK (.ptr 108))).isNone))] (Os := []) trivial hE hH (by kernel_rfl) (fun a hE => ?_)
    refine wpFrom_end (by kernel_rfl) ?_
    refine Exit.then_normal (hK11 _ _ ?_)
    refine condE (b := ((mapGet .str (.ptr 108) p1 o9.2.1).getD (zeroK (.ptr 108))).isNone) hE (by kernel_rfl) (fun hc => ?_) (fun hc => ?_)
    · replace h := ifT hc h
      refine wp_seq_k (fun K hK12 => ?_)
      refine wp_region_from ?_
      refine segO 2 [] [(4, .val (.pointer none)), (5, .kv .i 8)] (Os := []) trivial hE hH (by kernel_rfl) (fun a hE => ?_)
      refine wpFrom_end (by kernel_rfl) ?_
      refine Exit.then_normal (hK12 _ _ ?_)
      refine wp_ret ?_
      refine Exit.then_ret ?_
      cases h
      exact ret2 rfl hE hle hH (by kernel_rfl)
    · replace h := ifF hc h
      refine wp_skip ?_
      refine Exit.then_normal (hK10 _ _ ?_)
      refine wp_seq_k (fun K hK13 => ?_)
      refine wp_region_from ?_
      refine segO 3 [] [(4, .kv (.ptr 108) ((mapGet .str (.ptr 108) p1 o9.2.1).getD (zeroK (.ptr 108)))), (5, .kv .i 0)] (Os := []) trivial hE hH (by kernel_rfl) (fun a hE => ?_)
      refine wpFrom_end (by kernel_rfl) ?_
      refine Exit.then_normal (hK13 _ _ ?_)
      refine wp_ret ?_
      cases h
      exact ret2 rfl hE hle hH (by kernel_rfl)

def f30 (p0 : Option Nat) (p1 : List UInt8) (σ : St) : Option Int :=
  if p0.isNone = true then
  some 0
  else
  p0 >>= fun i5 =>
  (σ.t105[i5]?) >>= fun o6 =>
  if (((mapGet .str (.ptr 108) p1 o6.2.1).getD (zeroK (.ptr 108))).isNone) = true then
  some 0
  else
  p0 >>= fun i9 =>
  (σ.t105[i9]?) >>= fun o10 =>
  ((mapGet .str (.ptr 108) p1 o10.2.1).getD (zeroK (.ptr 108))) >>= fun i11 =>
  (σ.t108[i11]?) >>= fun o12 =>
  some o12.2.1

theorem f30_ok {p0 : Option Nat} {p1 : List UInt8} {σ : St} {p : Int} (h : f30 p0 p1 σ = some p) : Spec Try.prog 30 [.kv (.ptr 105) p0, .kv .str p1] (tabs σ) (.kv .i p) (tabs σ) := by
  refine Spec.intro Try.func30 (by kernel_rfl) rfl (by kernel_rfl) (fun a w G0 Ls hE hH hN => ?_)
  have hle : G0.le G0 := Gh.le_refl G0
  unfold f30 at h
  refine wp_seq_k (fun K hK1 => ?_)
  refine wp_region_from ?_
  refine segO 1 [] [(4, .kv .i 0)] (Os := []) trivial hE hH (by kernel_rfl) (fun a hE => ?_)
  refine wpFrom_end (by kernel_rfl) ?_
  refine Exit.then_normal (hK1 _ _ ?_)
  refine wp_seq_k (fun K hK2 => ?_)
  refine wp_seq_k (fun K hK3 => ?_)
  refine wp_region_from ?_
  refine segO 3 [] [(7, .kv .bool p0.isNone)] (Os := []) trivial hE hH (by kernel_rfl) (fun a hE => ?_)
  by_cases hc : p0.isNone = true
  · replace h := ifT hc h
    have hE := hE.setB 7 (by kernel_rfl) hc
    refine segO 8 [] [(15, .kv .bool true)] (Os := []) trivial hE hH (by kernel_rfl) (fun a hE => ?_)
    refine wpFrom_end (by kernel_rfl) ?_
    refine Exit.then_normal (hK3 _ _ ?_)
    refine condT hE (by kernel_rfl) rfl ?_
    refine wp_seq_k (fun K hK4 => ?_)
    refine wp_region_from ?_
    refine segO 1 [] [(4, .kv .i 0)] (Os := []) trivial hE hH (by kernel_rfl) (fun a hE => ?_)
    refine wpFrom_end (by kernel_rfl) ?_
    refine Exit.then_normal (hK4 _ _ ?_)
    refine wp_ret ?_
    refine Exit.then_ret ?_
    cases h
    exact ret1 rfl hE hle hH (by kernel_rfl)
  · replace h := ifN hc h
    have hE := hE.setB 7 (by kernel_rfl) (bf hc)
    obtain ⟨i5, hi5, h⟩ := bs h
    obtain ⟨o6, ho6, h⟩ := bs h
    refine segO 8 [.pt i5, .ob fs105 o6, .ob fs105 o6] [(15, .kv .bool (((mapGet .str (.ptr 108) p1 o6.2.1).getD (zeroK (.ptr 108))).isNone))] (Os := [_, _, _]) ⟨hi5, (ob105 (s := σ) ho6), (ob105 (s := σ) ho6), trivial⟩ hE hH (by kernel_rfl) (fun a hE => ?_)
    refine wpFrom_end (by kernel_rfl) ?_
    refine Exit.then_normal (hK3 _ _ ?_)
    refine condE (b := ((mapGet .str (.ptr 108) p1 o6.2.1).getD (zeroK (.ptr 108))).isNone) hE (by kernel_rfl) (fun hc => ?_) (fun hc => ?_)
    · replace h := ifT hc h
      refine wp_seq_k (fun K hK7 => ?_)
      refine wp_region_from ?_
      refine segO 1 [] [(4, .kv .i 0)] (Os := []) trivial hE hH (by kernel_rfl) (fun a hE => ?_)
      refine wpFrom_end (by kernel_rfl) ?_
      refine Exit.then_normal (hK7 _ _ ?_)
      refine wp_ret ?_
      refine Exit.then_ret ?_
      cases h
      exact ret1 rfl hE hle hH (by kernel_rfl)
    · replace h := ifF hc h
      refine wp_skip ?_
      refine Exit.then_normal (hK2 _ _ ?_)
      refine wp_seq_k (fun K hK8 => ?_)
      refine wp_region_from ?_
      obtain ⟨i9, hi9, h⟩ := bs h
      obtain ⟨o10, ho10, h⟩ := bs h
      obtain ⟨i11, hi11, h⟩ := bs h
      obtain ⟨o12, ho12, h⟩ := bs h
      refine segO 10 [.pt i9, .ob fs105 o10, .ob fs105 o10, .pt i11, .ob fs108 o12] [(4, .kv .i o12.2.1)] (Os := [_, _, _, _, _]) ⟨hi9, (ob105 (s := σ) ho10), (ob105 (s := σ) ho10), hi11, (ob108 (s := σ) ho12), trivial⟩ hE hH (by kernel_rfl) (fun a hE => ?_)
      refine wpFrom_end (by kernel_rfl) ?_
      refine Exit.then_normal (hK8 _ _ ?_)
      refine wp_ret ?_
      cases h
      exact ret1 rfl hE hle hH (by kernel_rfl)

def f28 (p0 : Option Nat) (p1 : List UInt8) (σ : St) : Option ((List UInt8) × Int) :=
  f77 p0 p1 σ >>= fun r3 =>
  if (r3.2 != 0) = true then
  some ([], r3.2)
  else
  r3.1 >>= fun i8 =>
  (σ.t108[i8]?) >>= fun o9 =>
  some (o9.1, 0)

theorem f28_ok {p0 : Option Nat} {p1 : List UInt8} {σ : St} {p : (List UInt8) × Int} (h : f28 p0 p1 σ = some p) : Spec Try.prog 28 [.kv (.ptr 105) p0, .kv .str p1] (tabs σ) (.tup [⟨.str, p.1⟩, ⟨.i, p.2⟩]) (tabs σ) := by
  refine Spec.intro Try.func28 (by kernel_rfl) rfl (by kernel_rfl) (fun a w G0 Ls hE hH hN => ?_)
  have hle : G0.le G0 := Gh.le_refl G0
  unfold f28 at h
  refine wp_seq_k (fun K hK1 => ?_)
  refine wp_region_from ?_
  refine segO 2 [] [(4, .kv .str []), (5, .kv .i 0)] (Os := []) trivial hE hH (by kernel_rfl) (fun a hE => ?_)
  refine wpFrom_end (by kernel_rfl) ?_
  refine Exit.then_normal (hK1 _ _ ?_)
  refine wp_seq_k (fun K hK2 => ?_)
  refine wp_region_from ?_
  refine segO 2 [] [(9, .kv (.ptr 105) p0), (10, .kv .str p1)] (Os := []) trivial hE hH (by kernel_rfl) (fun a hE => ?_)
  obtain ⟨r3, hr3, h⟩ := bs h
  refine stepCall (d := (some 11)) (f77_ok hr3) hE hH hN (by kernel_rfl) (by kernel_rfl) trivial (fun a w G hl1 hE hH => ?_)
  have hle := Gh.le_trans hle hl1
  refine segO 5 [] [(6, .kv (.ptr 108) r3.1), (7, .kv .i r3.2)] (Os := []) trivial hE hH (by kernel_rfl) (fun a hE => ?_)
  refine wpFrom_end (by kernel_rfl) ?_
  refine Exit.then_normal (hK2 _ _ ?_)
  refine wp_seq_k (fun K hK4 => ?_)
  refine wp_seq_k (fun K hK5 => ?_)
  refine wp_region_from ?_
  refine segO 2 [] [(15, .kv .bool (r3.2 != 0))] (Os := []) trivial hE hH (by kernel_rfl) (fun a hE => ?_)
  refine wpFrom_end (by kernel_rfl) ?_
  refine Exit.then_normal (hK5 _ _ ?_)
  refine condE (b := r3.2 != 0) hE (by kernel_rfl) (fun hc => ?_) (fun hc => ?_)
  · replace h := ifT hc h
    refine wp_seq_k (fun K hK6 => ?_)
    refine wp_region_from ?_
    refine segO 3 [] [(4, .kv .str []), (5, .kv .i r3.2)] (Os := []) trivial hE hH (by kernel_rfl) (fun a hE => ?_)
    refine wpFrom_end (by kernel_rfl) ?_
    refine Exit.then_normal (hK6 _ _ ?_)
    refine wp_ret ?_
    refine Exit.then_ret ?_
    cases h
    exact ret2 rfl hE hle hH (by kernel_rfl)
  · replace h := ifF hc h
    refine wp_skip ?_
    refine Exit.then_normal (hK4 _ _ ?_)
    refine wp_seq_k (fun K hK7 => ?_)
    refine wp_region_from ?_
    obtain ⟨i8, hi8, h⟩ := bs h
    obtain ⟨o9, ho9, h⟩ := bs h
    refine segO 6 [.pt i8, .ob fs108 o9] [(4, .kv .str o9.1), (5, .kv .i 0)] (Os := [_, _]) ⟨hi8, (ob108 (s := σ) ho9), trivial⟩ hE hH (by kernel_rfl) (fun a hE => ?_)
    refine wpFrom_end (by kernel_rfl) ?_
    refine Exit.then_normal (hK7 _ _ ?_)
    refine wp_ret ?_
    cases h
    exact ret2 rfl hE hle hH (by kernel_rfl)

def f31 (p0 : Option Nat) (σ : St) : Option Bool :=
  if (!p0.isNone) = true then
  p0 >>= fun i3 =>
  (σ.t105[i3]?) >>= fun o4 =>
  some o4.2.2.2.1
  else
  some false

theorem f31_ok {p0 : Option Nat} {σ : St} {p : Bool} (h : f31 p0 σ = some p) : Spec Try.prog 31 [.kv (.ptr 105) p0] (tabs σ) (.kv .bool p) (tabs σ) := by
  refine Spec.intro Try.func31 (by kernel_rfl) rfl (by kernel_rfl) (fun a w G0 Ls hE hH hN => ?_)
  have hle : G0.le G0 := Gh.le_refl G0
  unfold f31 at h
  refine wp_seq_k (fun K hK1 => ?_)
  refine wp_region_from ?_
  refine segO 1 [] [(2, .kv .bool false)] (Os := []) trivial hE hH (by kernel_rfl) (fun a hE => ?_)
  refine wpFrom_end (by kernel_rfl) ?_
  refine Exit.then_normal (hK1 _ _ ?_)
  refine wp_seq_k (fun K hK2 => ?_)
  refine wp_region_from ?_
  refine segO 3 [] [(5, .kv .bool (!p0.isNone))] (Os := []) trivial hE hH (by kernel_rfl) (fun a hE => ?_)
  by_cases hc : (!p0.isNone) = true
  · replace h := ifT hc h
    have hE := hE.setB 5 (by kernel_rfl) hc
    obtain ⟨i3, hi3, h⟩ := bs h
    obtain ⟨o4, ho4, h⟩ := bs h
    refine segO 6 [.pt i3, .ob fs105 o4] [(2, .kv .bool o4.2.2.2.1)] (Os := [_, _]) ⟨hi3, (ob105 (s := σ) ho4), trivial⟩ hE hH (by kernel_rfl) (fun a hE => ?_)
    refine wpFrom_end (by kernel_rfl) ?_
    refine Exit.then_normal (hK2 _ _ ?_)
    refine wp_ret ?_
    cases h
    exact ret1 rfl hE hle hH (by kernel_rfl)
  · replace h := ifN hc h
    have hE := hE.setB 5 (by kernel_rfl) (bf hc)
    refine segO 6 [] [(2, .kv .bool false)] (Os := []) trivial hE hH (by kernel_rfl) (fun a hE => ?_)
    refine wpFrom_end (by kernel_rfl) ?_
    refine Exit.then_normal (hK2 _ _ ?_)
    refine wp_ret ?_
    cases h
    exact ret1 rfl hE hle hH (by kernel_rfl)

def f32 (p0 : Option Nat) (p1 : Int) (σ : St) : Option (Int × St) :=
  f70 p0 σ >>= fun r3 =>
  if (r3 != 0) = true then
  some (r3, σ)
  else
  if (decide (p1 < 1)) = true then
  some (2, σ)
  else
  p0 >>= fun i10 =>
  (σ.t105[i10]?) >>= fun o11 =>
  some (0, (σ.set105 i10 (o11.1, o11.2.1, p1, o11.2.2.2.1, ())))

theorem f32_ok {p0 : Option Nat} {p1 : Int} {σ : St} {p : Int × St} (h : f32 p0 p1 σ = some p) : Spec Try.prog 32 [.kv (.ptr 105) p0, .kv .i p1] (tabs σ) (.kv .i p.1) (tabs p.2) := by
  refine Spec.intro Try.func32 (by kernel_rfl) rfl (by kernel_rfl) (fun a w G0 Ls hE hH hN => ?_)
  have hle : G0.le G0 := Gh.le_refl G0
  unfold f32 at h
  refine wp_seq_k (fun K hK1 => ?_)
  refine wp_region_from ?_
  refine segO 1 [] [(4, .kv .i 0)] (Os := []) trivial hE hH (by kernel_rfl) (fun a hE => ?_)
  refine wpFrom_end (by kernel_rfl) ?_
  refine Exit.then_normal (hK1 _ _ ?_)
  refine wp_seq_k (fun K hK2 => ?_)
  refine wp_region_from ?_
  refine segO 1 [] [(6, .kv (.ptr 105) p0)] (Os := []) trivial hE hH (by kernel_rfl) (fun a hE => ?_)
  obtain ⟨r3, hr3, h⟩ := bs h
  refine stepCall (d := (some 7)) (f70_ok hr3) hE hH hN (by kernel_rfl) (by kernel_rfl) trivial (fun a w G hl1 hE hH => ?_)
  have hle := Gh.le_trans hle hl1
  refine segO 1 [] [(5, .kv .i r3)] (Os := []) trivial hE hH (by kernel_rfl) (fun a hE => ?_)
  refine wpFrom_end (by kernel_rfl) ?_
  refine Exit.then_normal (hK2 _ _ ?_)
  refine wp_seq_k (fun K hK4 => ?_)
  refine wp_block ?_
  refine wp_seq_k (fun K hK5 => ?_)
  refine wp_region_from ?_
  refine segO 3 [] [(8, .kv .bool (r3 != 0))] (Os := []) trivial hE hH (by kernel_rfl) (fun a hE => ?_)
  refine wpFrom_end (by kernel_rfl) ?_
  refine Exit.then_normal (hK5 _ _ ?_)
  refine condE (b := r3 != 0) hE (by kernel_rfl) (fun hc => ?_) (fun hc => ?_)
  · replace h := ifT hc h
    refine wp_seq_k (fun K hK6 => ?_)
    refine wp_region_from ?_
    refine segO 2 [] [(4, .kv .i r3)] (Os := []) trivial hE hH (by kernel_rfl) (fun a hE => ?_)
    refine wpFrom_end (by kernel_rfl) ?_
    refine Exit.then_normal (hK6 _ _ ?_)
    refine wp_ret ?_
    refine Exit.in_ret ?_
    refine Exit.then_ret ?_
    cases h
    exact ret1 rfl hE hle hH (by kernel_rfl)
  · replace h := ifF hc h
    refine wp_seq_k (fun K hK7 => ?_)
    refine wp_region_from ?_
    refine segO 3 [] [(12, .kv .bool (decide (p1 < 1)))] (Os := []) trivial hE hH (by kernel_rfl) (fun a hE => ?_)
    refine wpFrom_end (by kernel_rfl) ?_
    refine Exit.then_normal (hK7 _ _ ?_)
    refine condE (b := decide (p1 < 1)) hE (by kernel_rfl) (fun hc => ?_) (fun hc => ?_)
    · replace h := ifT hc h
      refine wp_seq_k (fun K hK8 => ?_)
      refine wp_region_from ?_
      refine segO 1 [] [(4, .kv .i 2)] (Os := []) trivial hE hH (by kernel_rfl) (fun a hE => ?_)
      refine wpFrom_end (by kernel_rfl) ?_
      refine Exit.then_normal (hK8 _ _ ?_)
      refine wp_ret ?_
      refine Exit.in_ret ?_
      refine Exit.then_ret ?_
      cases h
      exact ret1 rfl hE hle hH (by kernel_rfl)
    · replace h := ifF hc h
      refine wp_skip ?_
      refine Exit.in_normal ?_
      refine Exit.then_normal (hK4 _ _ ?_)
      refine wp_seq_k (fun K hK9 => ?_)
      refine wp_region_from ?_
      obtain ⟨i10, hi10, h⟩ := bs h
      refine segO 4 [.pt i10] [(16, .kv .i p1), (18, .fldA 105 i10 2)] (Os := [_]) ⟨hi10, trivial⟩ hE hH (by kernel_rfl) (fun a hE => ?_)
      obtain ⟨o11, ho11, h⟩ := bs h
      refine stepStO (t := 105) (j := i10) (off := 2) .i p1 (x' := (o11.1, o11.2.1, p1, o11.2.2.2.1, ())) hE hH (by kernel_rfl) (ob105 (s := σ) ho11) (by kernel_rfl) (upd105 (s := σ)) (fun w G hl2 hE hH => ?_)
      have hle := Gh.le_trans hle hl2
      refine wpFrom_end (by kernel_rfl) ?_
      refine Exit.then_normal (hK9 _ _ ?_)
      refine wp_seq_k (fun K hK12 => ?_)
      refine wp_region_from ?_
      refine segO 1 [] [(4, .kv .i 0)] (Os := []) trivial hE hH (by kernel_rfl) (fun a hE => ?_)
      refine wpFrom_end (by kernel_rfl) ?_
      refine Exit.then_normal (hK12 _ _ ?_)
      refine wp_ret ?_
      cases h
      exact ret1 rfl hE hle hH (by kernel_rfl)

def f78 (c0 : Nat) (σ : St) : Option (Unit × St) :=
  (σ.t100106[c0]?) >>= fun o1 =>
  o1.1 >>= fun i2 =>
  (σ.t108[i2]?) >>= fun o3 =>
  o1.1 >>= fun i4 =>
  (σ.t108[i4]?) >>= fun o5 =>
  some ((), (σ.set108 i4 (o5.1, (o3.1.length : Int), ())))

theorem f78_ok {c0 : Nat} {σ : St} {p : Unit × St} (h : f78 c0 σ = some p) : Spec Try.prog 78 [.fldA 100106 c0 0] (tabs σ) (.tup []) (tabs p.2) := by
  refine Spec.intro Try.func78 (by kernel_rfl) rfl (by kernel_rfl) (fun a w G0 Ls hE hH hN => ?_)
  have hle : G0.le G0 := Gh.le_refl G0
  unfold f78 at h
  obtain ⟨o1, ho1, h⟩ := bs h
  obtain ⟨i2, hi2, h⟩ := bs h
  obtain ⟨o3, ho3, h⟩ := bs h
  refine region_par 6 [] [(0, 0), (0, 0), (0, 0), (0, 0), (0, 0), (0, 0)] [.kv (.ptr 108) o1.1, .kv (.ptr 108) o1.1, .kv (.ptr 108) (some i2), .fldA 108 i2 0, .kv .str o3.1, .kv .i (o3.1.length : Int)] (fun _ => tabs σ) (fun _ => Ls) (by kernel_rfl) (by kernel_rfl) hE hH
          ⟨⟨⟨⟨⟨⟨trivial,
          anyk (fun k => obR [.ob fs100106 o1] (Os := [_]) ⟨(ob100106 (s := σ) ho1), trivial⟩ (by kernel_rfl) (by kernel_rfl))⟩,
          anyk (fun k => obR [.ob fs100106 o1] (Os := [_]) ⟨(ob100106 (s := σ) ho1), trivial⟩ (by kernel_rfl) (by kernel_rfl))⟩,
          anyk (fun k => obR [.pt i2] (Os := [_]) ⟨hi2, trivial⟩ (by kernel_rfl) (by kernel_rfl))⟩,
          anyk (fun k => obR [] (Os := []) trivial (by kernel_rfl) (by kernel_rfl))⟩,
          anyk (fun k => obR [.ob fs108 o3] (Os := [_]) ⟨(ob108 (s := σ) ho3), trivial⟩ (by kernel_rfl) (by kernel_rfl))⟩,
          anyk (fun k => obR [] (Os := []) trivial (by kernel_rfl) (by kernel_rfl))⟩ (fun a w G hl1 hE hH => ?_)
  have hle := Gh.le_trans hle hl1
  obtain ⟨i4, hi4, h⟩ := bs h
  refine segO 2 [.pt i4] [(8, .fldA 108 i4 1)] (Os := [_]) ⟨hi4, trivial⟩ hE hH (by kernel_rfl) (fun a hE => ?_)
  obtain ⟨o5, ho5, h⟩ := bs h
  refine stepStO (t := 108) (j := i4) (off := 1) .i (o3.1.length : Int) (x' := (o5.1, (o3.1.length : Int), ())) hE hH (by kernel_rfl) (ob108 (s := σ) ho5) (by kernel_rfl) (upd108 (s := σ)) (fun w G hl2 hE hH => ?_)
  have hle := Gh.le_trans hle hl2
  refine wpFrom_end (by kernel_rfl) ?_
  cases h
  exact end0 rfl hE hle hH

def f79 (c0 : Nat) (c1 : Nat) (σ : St) : Option (Unit × St) :=
  (σ.t100106[c0]?) >>= fun o1 =>
  o1.1 >>= fun i2 =>
  (σ.t108[i2]?) >>= fun o3 =>
  (σ.t100003[c1]?) >>= fun o4 =>
  if (0 : Int) ≤ o4.1 ∧ o4.1 ≤ (o3.1.length : Int) then
  o1.1 >>= fun i6 =>
  (σ.t108[i6]?) >>= fun o7 =>
  o1.1 >>= fun i8 =>
  (σ.t108[i8]?) >>= fun o9 =>
  o1.1 >>= fun i10 =>
  ((σ.set108 i8 (o3.1.take (Int.toNat o4.1), o9.2.1, ())).t108[i10]?) >>= fun o11 =>
  some ((), ((σ.set108 i8 (o3.1.take (Int.toNat o4.1), o9.2.1, ())).set108 i10 (o11.1, if o4.1 < o7.2.1 then o4.1 else o7.2.1, ())))
  else none

theorem f79_ok {c0 : Nat} {c1 : Nat} {σ : St} {p : Unit × St} (h : f79 c0 c1 σ = some p) : Spec Try.prog 79 [.fldA 100106 c0 0, .fldA 100003 c1 0] (tabs σ) (.tup []) (tabs p.2) := by
  refine Spec.intro Try.func79 (by kernel_rfl) rfl (by kernel_rfl) (fun a w G0 Ls hE hH hN => ?_)
  have hle : G0.le G0 := Gh.le_refl G0
  unfold f79 at h
  obtain ⟨o1, ho1, h⟩ := bs h
  obtain ⟨i2, hi2, h⟩ := bs h
  obtain ⟨o3, ho3, h⟩ := bs h
  obtain ⟨o4, ho4, h⟩ := bs h
  obtain ⟨q5, h⟩ := gd h
  obtain ⟨i6, hi6, h⟩ := bs h
  obtain ⟨o7, ho7, h⟩ := bs h
  obtain ⟨i8, hi8, h⟩ := bs h
  obtain ⟨o9, ho9, h⟩ := bs h
  refine region_par 17 [16] [(0, 0), (0, 1), (0, 0), (0, 0), (0, 0), (0, 0), (0, 0), (0, 0), (0, 0), (0, 0), (0, 0), (0, 0), (0, 1), (0, 1), (0, 0), (0, 0), (0, 0)] [.kv (.ptr 108) o1.1, .kv (.ptr 108) o1.1, .kv (.ptr 108) o1.1, .kv (.ptr 108) (some i2), .fldA 108 i2 0, .kv .str o3.1, .kv .i o4.1, .kv .str (o3.1.take (Int.toNat o4.1)), .kv (.ptr 108) o1.1, .kv (.ptr 108) (some i6), .fldA 108 i6 1, .kv .i o7.2.1, .kv .i o4.1, .kv .i (if o4.1 < o7.2.1 then o4.1 else o7.2.1), .kv (.ptr 108) (some i8), .fldA 108 i8 0, .undef] (fun k => match k with | 0 => tabs σ | _ => tabs (σ.set108 i8 (o3.1.take (Int.toNat o4.1), o9.2.1, ()))) (fun _ => Ls) (by kernel_rfl) (by kernel_rfl) hE hH
          ⟨⟨⟨⟨⟨⟨⟨⟨⟨⟨⟨⟨⟨⟨⟨⟨⟨trivial,
          one (obR [.ob fs100106 o1] (Os := [_]) ⟨(ob100106 (s := σ) ho1), trivial⟩ (by kernel_rfl) (by kernel_rfl))⟩,
          two (obR [.ob fs100106 o1] (Os := [_]) ⟨(ob100106 (s := σ) ho1), trivial⟩ (by kernel_rfl) (by kernel_rfl)) (obR [.ob fs100106 o1] (Os := [_]) ⟨(ob100106 (s := (σ.set108 i8 (o3.1.take (Int.toNat o4.1), o9.2.1, ()))) ho1), trivial⟩ (by kernel_rfl) (by kernel_rfl))⟩,
          one (obR [.ob fs100106 o1] (Os := [_]) ⟨(ob100106 (s := σ) ho1), trivial⟩ (by kernel_rfl) (by kernel_rfl))⟩,
          anyk (fun k => obR [.pt i2] (Os := [_]) ⟨hi2, trivial⟩ (by kernel_rfl) (by kernel_rfl))⟩,
          anyk (fun k => obR [] (Os := []) trivial (by kernel_rfl) (by kernel_rfl))⟩,
          one (obR [.ob fs108 o3] (Os := [_]) ⟨(ob108 (s := σ) ho3), trivial⟩ (by kernel_rfl) (by kernel_rfl))⟩,
          one (obR [.ob fs100003 o4] (Os := [_]) ⟨(ob100003 (s := σ) ho4), trivial⟩ (by kernel_rfl) (by kernel_rfl))⟩,
          anyk (fun k => obR [] (Os := [_]) ⟨q5, trivial⟩ (by kernel_rfl) (by kernel_rfl))⟩,
          one (obR [.ob fs100106 o1] (Os := [_]) ⟨(ob100106 (s := σ) ho1), trivial⟩ (by kernel_rfl) (by kernel_rfl))⟩,
          anyk (fun k => obR [.pt i6] (Os := [_]) ⟨hi6, trivial⟩ (by kernel_rfl) (by kernel_rfl))⟩,
          anyk (fun k => obR [] (Os := []) trivial (by kernel_rfl) (by kernel_rfl))⟩,
          one (obR [.ob fs108 o7] (Os := [_]) ⟨(ob108 (s := σ) ho7), trivial⟩ (by kernel_rfl) (by kernel_rfl))⟩,
          two (obR [.ob fs100003 o4] (Os := [_]) ⟨(ob100003 (s := σ) ho4), trivial⟩ (by kernel_rfl) (by kernel_rfl)) (obR [.ob fs100003 o4] (Os := [_]) ⟨(ob100003 (s := (σ.set108 i8 (o3.1.take (Int.toNat o4.1), o9.2.1, ()))) ho4), trivial⟩ (by kernel_rfl) (by kernel_rfl))⟩,
          anyk (fun k => obR [] (Os := []) trivial (by kernel_rfl) (by kernel_rfl))⟩,
          anyk (fun k => obR [.pt i8] (Os := [_]) ⟨hi8, trivial⟩ (by kernel_rfl) (by kernel_rfl))⟩,
          anyk (fun k => obR [] (Os := []) trivial (by kernel_rfl) (by kernel_rfl))⟩,
          one (obSt (k := 0) (t := 108) (j := i8) (off := 0) .str (o3.1.take (Int.toNat o4.1)) (x' := (o3.1.take (Int.toNat o4.1), o9.2.1, ())) (by kernel_rfl) (by kernel_rfl) (ob108 (s := σ) ho9) (by kernel_rfl) (upd108 (s := σ)) rfl rfl)⟩ (fun a w G hl1 hE hH => ?_)
  have hle := Gh.le_trans hle hl1
  obtain ⟨i10, hi10, h⟩ := bs h
  refine segO 2 [.pt i10] [(19, .fldA 108 i10 1)] (Os := [_]) ⟨hi10, trivial⟩ hE hH (by kernel_rfl) (fun a hE => ?_)
  obtain ⟨o11, ho11, h⟩ := bs h
  refine stepStO (t := 108) (j := i10) (off := 1) .i (if o4.1 < o7.2.1 then o4.1 else o7.2.1) (x' := (o11.1, if o4.1 < o7.2.1 then o4.1 else o7.2.1, ())) hE hH (by kernel_rfl) (ob108 (s := (σ.set108 i8 (o3.1.take (Int.toNat o4.1), o9.2.1, ()))) ho11) (by kernel_rfl) (upd108 (s := (σ.set108 i8 (o3.1.take (Int.toNat o4.1), o9.2.1, ())))) (fun w G hl2 hE hH => ?_)
  have hle := Gh.le_trans hle hl2
  refine wpFrom_end (by kernel_rfl) ?_
  cases h
  exact end0 rfl hE hle hH

def f80 (c0 : Nat) (c1 : Nat) (c2 : Nat) (c3 : Nat) (σ : St) : Option (Unit × St) :=
  (σ.t100024[c0]?) >>= fun o2 =>
  o2.1 >>= fun i3 =>
  (σ.t105[i3]?) >>= fun o4 =>
  (σ.t100009[c1]?) >>= fun o5 =>
  o2.1 >>= fun i6 =>
  ((σ.set105 i3 (o4.1, mapDel .str (.ptr 108) o5.1 o4.2.1, o4.2.2.1, o4.2.2.2.1, ())).t105[i6]?) >>= fun o7 =>
  ((σ.set105 i3 (o4.1, mapDel .str (.ptr 108) o5.1 o4.2.1, o4.2.2.1, o4.2.2.2.1, ())).t100009[c3]?) >>= fun o8 =>
  ((σ.set105 i3 (o4.1, mapDel .str (.ptr 108) o5.1 o4.2.1, o4.2.2.1, o4.2.2.2.1, ())).t100106[c2]?) >>= fun o9 =>
  some ((), ((σ.set105 i3 (o4.1, mapDel .str (.ptr 108) o5.1 o4.2.1, o4.2.2.1, o4.2.2.2.1, ())).set105 i6 (o7.1, mapSet .str (.ptr 108) o8.1 o9.1 o7.2.1, o7.2.2.1, o7.2.2.2.1, ())))

theorem f80_ok {c0 : Nat} {c1 : Nat} {c2 : Nat} {c3 : Nat} {σ : St} {p : Unit × St} (h : f80 c0 c1 c2 c3 σ = some p) : Spec Try.prog 80 [.fldA 100024 c0 0, .fldA 100009 c1 0, .fldA 100106 c2 0, .fldA 100009 c3 0] (tabs σ) (.tup []) (tabs p.2) := by
  refine Spec.intro Try.func80 (by kernel_rfl) rfl (by kernel_rfl) (fun a w G0 Ls hE hH hN => ?_)
  have hle : G0.le G0 := Gh.le_refl G0
  unfold f80 at h
  refine wp_seq_k (fun K hK1 => ?_)
  obtain ⟨o2, ho2, h⟩ := bs h
  obtain ⟨i3, hi3, h⟩ := bs h
  obtain ⟨o4, ho4, h⟩ := bs h
  obtain ⟨o5, ho5, h⟩ := bs h
  refine region_par 5 [] [(0, 0), (0, 0), (0, 0), (0, 0), (0, 0)] [.kv (.ptr 105) o2.1, .kv (.ptr 105) (some i3), .fldA 105 i3 1, .fm 105 i3 1, .kv .str o5.1] (fun _ => tabs σ) (fun _ => Ls) (by kernel_rfl) (by kernel_rfl) hE hH
          ⟨⟨⟨⟨⟨trivial,
          anyk (fun k => obR [.ob fs100024 o2] (Os := [_]) ⟨(ob100024 (s := σ) ho2), trivial⟩ (by kernel_rfl) (by kernel_rfl))⟩,
          anyk (fun k => obR [.pt i3] (Os := [_]) ⟨hi3, trivial⟩ (by kernel_rfl) (by kernel_rfl))⟩,
          anyk (fun k => obR [] (Os := []) trivial (by kernel_rfl) (by kernel_rfl))⟩,
          anyk (fun k => obR [.ob fs105 o4] (Os := [_]) ⟨(ob105 (s := σ) ho4), trivial⟩ (by kernel_rfl) (by kernel_rfl))⟩,
          anyk (fun k => obR [.ob fs100009 o5] (Os := [_]) ⟨(ob100009 (s := σ) ho5), trivial⟩ (by kernel_rfl) (by kernel_rfl))⟩ (fun a w G hl1 hE hH => ?_)
  have hle := Gh.le_trans hle hl1
  refine stepMDel (d := none) .str (.ptr 108) o5.1 (t := 105) (j := i3) (f := 1) (m := o4.2.1) (x' := (o4.1, mapDel .str (.ptr 108) o5.1 o4.2.1, o4.2.2.1, o4.2.2.2.1, ())) hE hH (by kernel_rfl) (by kernel_rfl) (ob105 (s := σ) ho4) (by kernel_rfl) (by kernel_rfl) (upd105 (s := σ)) (fun a w G hl2 hE hH => ?_)
  have hle := Gh.le_trans hle hl2
  refine wpFrom_end (by kernel_rfl) ?_
  refine Exit.then_normal (hK1 _ _ ?_)
  obtain ⟨i6, hi6, h⟩ := bs h
  obtain ⟨o7, ho7, h⟩ := bs h
  obtain ⟨o8, ho8, h⟩ := bs h
  obtain ⟨o9, ho9, h⟩ := bs h
  refine region_par 6 [] [(0, 0), (0, 0), (0, 0), (0, 0), (0, 0), (0, 0)] [.kv (.ptr 105) o2.1, .kv (.ptr 105) (some i6), .fldA 105 i6 1, .fm 105 i6 1, .kv .str o8.1, .kv (.ptr 108) o9.1] (fun _ => tabs (σ.set105 i3 (o4.1, mapDel .str (.ptr 108) o5.1 o4.2.1, o4.2.2.1, o4.2.2.2.1, ()))) (fun _ => Ls) (by kernel_rfl) (by kernel_rfl) hE hH
          ⟨⟨⟨⟨⟨⟨trivial,
          anyk (fun k => obR [.ob fs100024 o2] (Os := [_]) ⟨(ob100024 (s := (σ.set105 i3 (o4.1, mapDel .str (.ptr 108) o5.1 o4.2.1, o4.2.2.1, o4.2.2.2.1, ()))) ho2), trivial⟩ (by kernel_rfl) (by kernel_rfl))⟩,
          anyk (fun k => obR [.pt i6] (Os := [_]) ⟨hi6, trivial⟩ (by kernel_rfl) (by kernel_rfl))⟩,
          anyk (fun k => obR [] (Os := []) trivial (by kernel_rfl) (by kernel_rfl))⟩,
          anyk (fun k => obR [.ob fs105 o7] (Os := [_]) ⟨(ob105 (s := (σ.set105 i3 (o4.1, mapDel .str (.ptr 108) o5.1 o4.2.1, o4.2.2.1, o4.2.2.2.1, ()))) ho7), trivial⟩ (by kernel_rfl) (by kernel_rfl))⟩,
          anyk (fun k => obR [.ob fs100009 o8] (Os := [_]) ⟨(ob100009 (s := (σ.set105 i3 (o4.1, mapDel .str (.ptr 108) o5.1 o4.2.1, o4.2.2.1, o4.2.2.2.1, ()))) ho8), trivial⟩ (by kernel_rfl) (by kernel_rfl))⟩,
          anyk (fun k => obR [.ob fs100106 o9] (Os := [_]) ⟨(ob100106 (s := (σ.set105 i3 (o4.1, mapDel .str (.ptr 108) o5.1 o4.2.1, o4.2.2.1, o4.2.2.2.1, ()))) ho9), trivial⟩ (by kernel_rfl) (by kernel_rfl))⟩ (fun a w G hl3 hE hH => ?_)
  have hle := Gh.le_trans hle hl3
  refine stepMUp .str (.ptr 108) o8.1 o9.1 (t := 105) (j := i6) (f := 1) (m := o7.2.1) (x' := (o7.1, mapSet .str (.ptr 108) o8.1 o9.1 o7.2.1, o7.2.2.1, o7.2.2.2.1, ())) hE hH (by kernel_rfl) (ob105 (s := (σ.set105 i3 (o4.1, mapDel .str (.ptr 108) o5.1 o4.2.1, o4.2.2.1, o4.2.2.2.1, ()))) ho7) (by kernel_rfl) (by kernel_rfl) (upd105 (s := (σ.set105 i3 (o4.1, mapDel .str (.ptr 108) o5.1 o4.2.1, o4.2.2.1, o4.2.2.2.1, ())))) (fun w G hl4 hE hH => ?_)
  have hle := Gh.le_trans hle hl4
  refine wpFrom_end (by kernel_rfl) ?_
  cases h
  exact end0 rfl hE hle hH

def f81 (c0 : Nat) (c1 : Nat) (σ : St) : Option (Unit × St) :=
  (σ.t100024[c0]?) >>= fun o1 =>
  o1.1 >>= fun i2 =>
  (σ.t105[i2]?) >>= fun o3 =>
  (σ.t100009[c1]?) >>= fun o4 =>
  some ((), (σ.set105 i2 (o3.1, mapDel .str (.ptr 108) o4.1 o3.2.1, o3.2.2.1, o3.2.2.2.1, ())))

theorem f81_ok {c0 : Nat} {c1 : Nat} {σ : St} {p : Unit × St} (h : f81 c0 c1 σ = some p) : Spec Try.prog 81 [.fldA 100024 c0 0, .fldA 100009 c1 0] (tabs σ) (.tup []) (tabs p.2) := by
  refine Spec.intro Try.func81 (by kernel_rfl) rfl (by kernel_rfl) (fun a w G0 Ls hE hH hN => ?_)
  have hle : G0.le G0 := Gh.le_refl G0
  unfold f81 at h
  obtain ⟨o1, ho1, h⟩ := bs h
  obtain ⟨i2, hi2, h⟩ := bs h
  obtain ⟨o3, ho3, h⟩ := bs h
  obtain ⟨o4, ho4, h⟩ := bs h
  refine region_par 5 [] [(0, 0), (0, 0), (0, 0), (0, 0), (0, 0)] [.kv (.ptr 105) o1.1, .kv (.ptr 105) (some i2), .fldA 105 i2 1, .fm 105 i2 1, .kv .str o4.1] (fun _ => tabs σ) (fun _ => Ls) (by kernel_rfl) (by kernel_rfl) hE hH
          ⟨⟨⟨⟨⟨trivial,
          anyk (fun k => obR [.ob fs100024 o1] (Os := [_]) ⟨(ob100024 (s := σ) ho1), trivial⟩ (by kernel_rfl) (by kernel_rfl))⟩,
          anyk (fun k => obR [.pt i2] (Os := [_]) ⟨hi2, trivial⟩ (by kernel_rfl) (by kernel_rfl))⟩,
          anyk (fun k => obR [] (Os := []) trivial (by kernel_rfl) (by kernel_rfl))⟩,
          anyk (fun k => obR [.ob fs105 o3] (Os := [_]) ⟨(ob105 (s := σ) ho3), trivial⟩ (by kernel_rfl) (by kernel_rfl))⟩,
          anyk (fun k => obR [.ob fs100009 o4] (Os := [_]) ⟨(ob100009 (s := σ) ho4), trivial⟩ (by kernel_rfl) (by kernel_rfl))⟩ (fun a w G hl1 hE hH => ?_)
  have hle := Gh.le_trans hle hl1
  refine stepMDel (d := none) .str (.ptr 108) o4.1 (t := 105) (j := i2) (f := 1) (m := o3.2.1) (x' := (o3.1, mapDel .str (.ptr 108) o4.1 o3.2.1, o3.2.2.1, o3.2.2.2.1, ())) hE hH (by kernel_rfl) (by kernel_rfl) (ob105 (s := σ) ho3) (by kernel_rfl) (by kernel_rfl) (upd105 (s := σ)) (fun a w G hl2 hE hH => ?_)
  have hle := Gh.le_trans hle hl2
  refine wpFrom_end (by kernel_rfl) ?_
  cases h
  exact end0 rfl hE hle hH

def f73  (σ : St) : Option (Unit × St) :=
  some ((), σ)

theorem f73_ok  {σ : St} {p : Unit × St} (h : f73 σ = some p) : Spec Try.prog 73 [] (tabs σ) (.tup []) (tabs p.2) := by
  refine Spec.intro Try.func73 (by kernel_rfl) rfl (by kernel_rfl) (fun a w G0 Ls hE hH hN => ?_)
  have hle : G0.le G0 := Gh.le_refl G0
  unfold f73 at h
  refine wp_skip ?_
  cases h
  exact end0 rfl hE hle hH

def f72 (p0 : Option Nat) (p1 : St → Option (Unit × St)) (σ : St) : Option (Int × St) :=
  p0 >>= fun i4 =>
  (σ.t105[i4]?) >>= fun o5 =>
  if (decide (o5.2.2.1 > 0)) = true then
  p0 >>= fun i7 =>
  (σ.t105[i7]?) >>= fun o8 =>
  p0 >>= fun i9 =>
  (σ.t105[i9]?) >>= fun o10 =>
  p0 >>= fun i12 =>
  ((σ.set105 i9 (o10.1, o10.2.1, IntKind.wrap .i64 (o8.2.2.1 - 1), o10.2.2.2.1, ())).t105[i12]?) >>= fun o13 =>
  if (o13.2.2.1 == 0) = true then
  p0 >>= fun i15 =>
  ((σ.set105 i9 (o10.1, o10.2.1, IntKind.wrap .i64 (o8.2.2.1 - 1), o10.2.2.2.1, ())).t105[i15]?) >>= fun o16 =>
  some (11, ((σ.set105 i9 (o10.1, o10.2.1, IntKind.wrap .i64 (o8.2.2.1 - 1), o10.2.2.2.1, ())).set105 i15 (o16.1, o16.2.1, o16.2.2.1, true, ())))
  else
  p1 (σ.set105 i9 (o10.1, o10.2.1, IntKind.wrap .i64 (o8.2.2.1 - 1), o10.2.2.2.1, ())) >>= fun r19 =>
  some (0, r19.2)
  else
  p1 σ >>= fun r22 =>
  some (0, r22.2)

theorem f72_ok {p0 : Option Nat} {p1 : St → Option (Unit × St)} {σ : St} {q1 : Nat} {l1 : List (Nat × Nat)} (hq1 : ∀ {σ : St} {r : Unit × St}, p1 σ = some r → Spec Try.prog q1 (fldEs l1) (tabs σ) (.tup []) (tabs r.2)) {p : Int × St} (h : f72 p0 p1 σ = some p) : Spec Try.prog 72 [.kv (.ptr 105) p0, .clo q1 l1] (tabs σ) (.kv .i p.1) (tabs p.2) := by
  refine Spec.intro Try.func72 (by kernel_rfl) rfl (by kernel_rfl) (fun a w G0 Ls hE hH hN => ?_)
  have hle : G0.le G0 := Gh.le_refl G0
  unfold f72 at h
  refine wp_seq_k (fun K hK1 => ?_)
  refine wp_region_from ?_
  refine segO 1 [] [(4, .kv .i 0)] (Os := []) trivial hE hH (by kernel_rfl) (fun a hE => ?_)
  refine wpFrom_end (by kernel_rfl) ?_
  refine Exit.then_normal (hK1 _ _ ?_)
  refine wp_seq_k (fun K hK2 => ?_)
  refine wp_seq_k (fun K hK3 => ?_)
  refine wp_region_from ?_
  obtain ⟨i4, hi4, h⟩ := bs h
  obtain ⟨o5, ho5, h⟩ := bs h
  refine segO 5 [.pt i4, .ob fs105 o5] [(9, .kv .bool (decide (o5.2.2.1 > 0)))] (Os := [_, _]) ⟨hi4, (ob105 (s := σ) ho5), trivial⟩ hE hH (by kernel_rfl) (fun a hE => ?_)
  refine wpFrom_end (by kernel_rfl) ?_
  refine Exit.then_normal (hK3 _ _ ?_)
  refine condE (b := decide (o5.2.2.1 > 0)) hE (by kernel_rfl) (fun hc => ?_) (fun hc => ?_)
  · replace h := ifT hc h
    refine wp_seq_k (fun K hK6 => ?_)
    refine wp_region_from ?_
    obtain ⟨i7, hi7, h⟩ := bs h
    obtain ⟨o8, ho8, h⟩ := bs h
    obtain ⟨i9, hi9, h⟩ := bs h
    refine segO 7 [.pt i7, .ob fs105 o8, .pt i9] [(14, .kv .i (IntKind.wrap .i64 (o8.2.2.1 - 1))), (16, .fldA 105 i9 2)] (Os := [_, _, _]) ⟨hi7, (ob105 (s := σ) ho8), hi9, trivial⟩ hE hH (by kernel_rfl) (fun a hE => ?_)
    obtain ⟨o10, ho10, h⟩ := bs h
    refine stepStO (t := 105) (j := i9) (off := 2) .i (IntKind.wrap .i64 (o8.2.2.1 - 1)) (x' := (o10.1, o10.2.1, IntKind.wrap .i64 (o8.2.2.1 - 1), o10.2.2.2.1, ())) hE hH (by kernel_rfl) (ob105 (s := σ) ho10) (by kernel_rfl) (upd105 (s := σ)) (fun w G hl1 hE hH => ?_)
    have hle := Gh.le_trans hle hl1
    refine wpFrom_end (by kernel_rfl) ?_
    refine Exit.then_normal (hK6 _ _ ?_)
    refine wp_seq_k (fun K hK11 => ?_)
    refine wp_region_from ?_
    obtain ⟨i12, hi12, h⟩ := bs h
    obtain ⟨o13, ho13, h⟩ := bs h
    refine segO 5 [.pt i12, .ob fs105 o13] [(21, .kv .bool (o13.2.2.1 == 0))] (Os := [_, _]) ⟨hi12, (ob105 (s := (σ.set105 i9 (o10.1, o10.2.1, IntKind.wrap .i64 (o8.2.2.1 - 1), o10.2.2.2.1, ()))) ho13), trivial⟩ hE hH (by kernel_rfl) (fun a hE => ?_)
    refine wpFrom_end (by kernel_rfl) ?_
    refine Exit.then_normal (hK11 _ _ ?_)
    refine condE (b := o13.2.2.1 == 0) hE (by kernel_rfl) (fun hc => ?_) (fun hc => ?_)
    · replace h := ifT hc h
      refine wp_seq_k (fun K hK14 => ?_)
      refine wp_region_from ?_
      obtain ⟨i15, hi15, h⟩ := bs h
      refine segO 3 [.pt i15] [(24, .fldA 105 i15 3)] (Os := [_]) ⟨hi15, trivial⟩ hE hH (by kernel_rfl) (fun a hE => ?_)
      obtain ⟨o16, ho16, h⟩ := bs h
      refine stepStO (t := 105) (j := i15) (off := 3) .bool true (x' := (o16.1, o16.2.1, o16.2.2.1, true, ())) hE hH (by kernel_rfl) (ob105 (s := (σ.set105 i9 (o10.1, o10.2.1, IntKind.wrap .i64 (o8.2.2.1 - 1), o10.2.2.2.1, ()))) ho16) (by kernel_rfl) (upd105 (s := (σ.set105 i9 (o10.1, o10.2.1, IntKind.wrap .i64 (o8.2.2.1 - 1), o10.2.2.2.1, ())))) (fun w G hl2 hE hH => ?_)
      have hle := Gh.le_trans hle hl2
      refine wpFrom_end (by kernel_rfl) ?_
      refine Exit.then_normal (hK14 _ _ ?_)
      refine wp_seq_k (fun K hK17 => ?_)
      refine wp_region_from ?_
      refine segO 1 [] [(4, .kv .i 11)] (Os := []) trivial hE hH (by kernel_rfl) (fun a hE => ?_)
      refine wpFrom_end (by kernel_rfl) ?_
      refine Exit.then_normal (hK17 _ _ ?_)
      refine wp_ret ?_
      refine Exit.then_ret ?_
      cases h
      exact ret1 rfl hE hle hH (by kernel_rfl)
    · replace h := ifF hc h
      refine wp_skip ?_
      refine Exit.then_normal (hK2 _ _ ?_)
      refine wp_seq_k (fun K hK18 => ?_)
      refine wp_region_from ?_
      refine segO 1 [] [(25, .clo q1 l1)] (Os := []) trivial hE hH (by kernel_rfl) (fun a hE => ?_)
      obtain ⟨r19, hr19, h⟩ := bs h
      refine stepCallC (f := q1) (l := l1) (As := []) (R := .tup []) (d := (some 26)) (hq1 hr19) hE hH hN (by kernel_rfl) (by kernel_rfl) trivial (fun a w G hl3 hE hH => ?_)
      have hle := Gh.le_trans hle hl3
      refine wpFrom_end (by kernel_rfl) ?_
      refine Exit.then_normal (hK18 _ _ ?_)
      refine wp_seq_k (fun K hK20 => ?_)
      refine wp_region_from ?_
      refine segO 1 [] [(4, .kv .i 0)] (Os := []) trivial hE hH (by kernel_rfl) (fun a hE => ?_)
      refine wpFrom_end (by kernel_rfl) ?_
      refine Exit.then_normal (hK20 _ _ ?_)
      refine wp_ret ?_
      cases h
      exact ret1 rfl hE hle hH (by kernel_rfl)
  · replace h := ifF hc h
    refine wp_skip ?_
    refine Exit.then_normal (hK2 _ _ ?_)
    refine wp_seq_k (fun K hK21 => ?_)
    refine wp_region_from ?_
    refine segO 1 [] [(25, .clo q1 l1)] (Os := []) trivial hE hH (by kernel_rfl) (fun a hE => ?_)
    obtain ⟨r22, hr22, h⟩ := bs h
    refine stepCallC (f := q1) (l := l1) (As := []) (R := .tup []) (d := (some 26)) (hq1 hr22) hE hH hN (by kernel_rfl) (by kernel_rfl) trivial (fun a w G hl4 hE hH => ?_)
    have hle := Gh.le_trans hle hl4
    refine wpFrom_end (by kernel_rfl) ?_
    refine Exit.then_normal (hK21 _ _ ?_)
    refine wp_seq_k (fun K hK23 => ?_)
    refine wp_region_from ?_
    refine segO 1 [] [(4, .kv .i 0)] (Os := []) trivial hE hH (by kernel_rfl) (fun a hE => ?_)
    refine wpFrom_end (by kernel_rfl) ?_
    refine Exit.then_normal (hK23 _ _ ?_)
    refine wp_ret ?_
    cases h
    exact ret1 rfl hE hle hH (by kernel_rfl)

def f33 (p0 : Option Nat) (p1 : List UInt8) (σ : St) : Option (Int × St) :=
  f77 p0 p1 σ >>= fun r3 =>
  if (r3.2 != 0) = true then
  some (r3.2, ((σ.add100106 (none, ())).set100106 σ.t100106.length (r3.1, ())))
  else
  f72 p0 (f78 σ.t100106.length) ((σ.add100106 (none, ())).set100106 σ.t100106.length (r3.1, ())) >>= fun r8 =>
  some (r8.1, r8.2)

theorem f33_ok {p0 : Option Nat} {p1 : List UInt8} {σ : St} {p : Int × St} (h : f33 p0 p1 σ = some p) : Spec Try.prog 33 [.kv (.ptr 105) p0, .kv .str p1] (tabs σ) (.kv .i p.1) (tabs p.2) := by
  refine Spec.intro Try.func33 (by kernel_rfl) rfl (by kernel_rfl) (fun a w G0 Ls hE hH hN => ?_)
  have hle : G0.le G0 := Gh.le_refl G0
  unfold f33 at h
  refine wp_seq_k (fun K hK1 => ?_)
  refine wp_region_from ?_
  refine segO 1 [] [(4, .kv .i 0)] (Os := []) trivial hE hH (by kernel_rfl) (fun a hE => ?_)
  refine wpFrom_end (by kernel_rfl) ?_
  refine Exit.then_normal (hK1 _ _ ?_)
  refine wp_seq_k (fun K hK2 => ?_)
  refine wp_region_from ?_
  refine segO 2 [] [(8, .kv (.ptr 105) p0), (9, .kv .str p1)] (Os := []) trivial hE hH (by kernel_rfl) (fun a hE => ?_)
  obtain ⟨r3, hr3, h⟩ := bs h
  refine stepCall (d := (some 10)) (f77_ok hr3) hE hH hN (by kernel_rfl) (by kernel_rfl) trivial (fun a w G hl1 hE hH => ?_)
  have hle := Gh.le_trans hle hl1
  refine segO 3 [] [(11, .kv (.ptr 108) r3.1), (12, .kv .i r3.2)] (Os := []) trivial hE hH (by kernel_rfl) (fun a hE => ?_)
  refine stepAlloc1 (e := 106) (d := (some 5)) (.ptr 108) hE hH (by kernel_rfl) (by kernel_rfl) (addT100106 (s := σ) (x := (none, ()))) (fun a w G hl2 hE hH => ?_)
  have hle := Gh.le_trans hle hl2
  refine stepStO (t := 100106) (j := σ.t100106.length) (off := 0) (.ptr 108) r3.1 (x' := (r3.1, ())) hE hH (by kernel_rfl) (ob100106 (s := (σ.add100106 (none, ()))) (got100106 (s := σ) (x := (none, ())))) (by kernel_rfl) (upd100106 (s := (σ.add100106 (none, ())))) (fun w G hl3 hE hH => ?_)
  have hle := Gh.le_trans hle hl3
  refine segO 1 [] [(6, .kv .i r3.2)] (Os := []) trivial hE hH (by kernel_rfl) (fun a hE => ?_)
  refine wpFrom_end (by kernel_rfl) ?_
  refine Exit.then_normal (hK2 _ _ ?_)
  refine wp_seq_k (fun K hK4 => ?_)
  refine wp_seq_k (fun K hK5 => ?_)
  refine wp_region_from ?_
  refine segO 2 [] [(14, .kv .bool (r3.2 != 0))] (Os := []) trivial hE hH (by kernel_rfl) (fun a hE => ?_)
  refine wpFrom_end (by kernel_rfl) ?_
  refine Exit.then_normal (hK5 _ _ ?_)
  refine condE (b := r3.2 != 0) hE (by kernel_rfl) (fun hc => ?_) (fun hc => ?_)
  · replace h := ifT hc h
    refine wp_seq_k (fun K hK6 => ?_)
    refine wp_region_from ?_
    refine segO 2 [] [(4, .kv .i r3.2)] (Os := []) trivial hE hH (by kernel_rfl) (fun a hE => ?_)
    refine wpFrom_end (by kernel_rfl) ?_
    refine Exit.then_normal (hK6 _ _ ?_)
    refine wp_ret ?_
    refine Exit.then_ret ?_
    cases h
    exact ret1 rfl hE hle hH (by kernel_rfl)
  · replace h := ifF hc h
    refine wp_skip ?_
    refine Exit.then_normal (hK4 _ _ ?_)
    refine wp_seq_k (fun K hK7 => ?_)
    refine wp_region_from ?_
    refine segO 1 [] [(16, .kv (.ptr 105) p0)] (Os := []) trivial hE hH (by kernel_rfl) (fun a hE => ?_)
    refine stepMF (f := 78) (l := [(100106, σ.t100106.length)]) (d := (some 17)) hE (by kernel_rfl) (by kernel_rfl) (fun a hE => ?_)
    obtain ⟨r8, hr8, h⟩ := bs h
    refine stepCall (d := (some 18)) (f72_ok (q1 := 78) (l1 := [(100106, σ.t100106.length)]) (hq1 := (fun h => f78_ok h)) hr8) hE hH hN (by kernel_rfl) (by kernel_rfl) trivial (fun a w G hl4 hE hH => ?_)
    have hle := Gh.le_trans hle hl4
    refine segO 1 [] [(4, .kv .i r8.1)] (Os := []) trivial hE hH (by kernel_rfl) (fun a hE => ?_)
    refine wpFrom_end (by kernel_rfl) ?_
    refine Exit.then_normal (hK7 _ _ ?_)
    refine wp_ret ?_
    cases h
    exact ret1 rfl hE hle hH (by kernel_rfl)

def f35 (p0 : Option Nat) (p1 : List UInt8) (p2 : Int) (σ : St) : Option (Int × St) :=
  f77 p0 p1 (σ.add100003 (p2, ())) >>= fun r3 =>
  if (r3.2 != 0) = true then
  some (r3.2, (((σ.add100003 (p2, ())).add100106 (none, ())).set100106 ((σ.add100003 (p2, ())).t100106.length) (r3.1, ())))
  else
  if (decide (p2 < 0)) = true then
  some (3, (((σ.add100003 (p2, ())).add100106 (none, ())).set100106 ((σ.add100003 (p2, ())).t100106.length) (r3.1, ())))
  else
  r3.1 >>= fun i11 =>
  ((((σ.add100003 (p2, ())).add100106 (none, ())).set100106 ((σ.add100003 (p2, ())).t100106.length) (r3.1, ())).t108[i11]?) >>= fun o12 =>
  if (decide (p2 > (o12.1.length : Int))) = true then
  some (3, (((σ.add100003 (p2, ())).add100106 (none, ())).set100106 ((σ.add100003 (p2, ())).t100106.length) (r3.1, ())))
  else
  f72 p0 (f79 ((σ.add100003 (p2, ())).t100106.length) σ.t100003.length) (((σ.add100003 (p2, ())).add100106 (none, ())).set100106 ((σ.add100003 (p2, ())).t100106.length) (r3.1, ())) >>= fun r15 =>
  some (r15.1, r15.2)

theorem f35_ok {p0 : Option Nat} {p1 : List UInt8} {p2 : Int} {σ : St} {p : Int × St} (h : f35 p0 p1 p2 σ = some p) : Spec Try.prog 35 [.kv (.ptr 105) p0, .kv .str p1, .kv .i p2] (tabs σ) (.kv .i p.1) (tabs p.2) := by
  refine Spec.intro Try.func35 (by kernel_rfl) rfl (by kernel_rfl) (fun a w G0 Ls hE hH hN => ?_)
  have hle : G0.le G0 := Gh.le_refl G0
  unfold f35 at h
  refine wp_seq_k (fun K hK1 => ?_)
  refine wp_region_from ?_
  refine stepNew1 (e := 3) (d := (some 5)) .i p2 hE hH (by kernel_rfl) (by kernel_rfl) (addT100003 (s := σ) (x := (p2, ()))) (fun a w G hl1 hE hH => ?_)
  have hle := Gh.le_trans hle hl1
  refine segO 1 [] [(6, .kv .i 0)] (Os := []) trivial hE hH (by kernel_rfl) (fun a hE => ?_)
  refine wpFrom_end (by kernel_rfl) ?_
  refine Exit.then_normal (hK1 _ _ ?_)
  refine wp_seq_k (fun K hK2 => ?_)
  refine wp_region_from ?_
  refine segO 2 [] [(10, .kv (.ptr 105) p0), (11, .kv .str p1)] (Os := []) trivial hE hH (by kernel_rfl) (fun a hE => ?_)
  obtain ⟨r3, hr3, h⟩ := bs h
  refine stepCall (d := (some 12)) (f77_ok hr3) hE hH hN (by kernel_rfl) (by kernel_rfl) trivial (fun a w G hl2 hE hH => ?_)
  have hle := Gh.le_trans hle hl2
  refine segO 3 [] [(13, .kv (.ptr 108) r3.1), (14, .kv .i r3.2)] (Os := []) trivial hE hH (by kernel_rfl) (fun a hE => ?_)
  refine stepAlloc1 (e := 106) (d := (some 7)) (.ptr 108) hE hH (by kernel_rfl) (by kernel_rfl) (addT100106 (s := (σ.add100003 (p2, ()))) (x := (none, ()))) (fun a w G hl3 hE hH => ?_)
  have hle := Gh.le_trans hle hl3
  refine stepStO (t := 100106) (j := ((σ.add100003 (p2, ())).t100106.length)) (off := 0) (.ptr 108) r3.1 (x' := (r3.1, ())) hE hH (by kernel_rfl) (ob100106 (s := ((σ.add100003 (p2, ())).add100106 (none, ()))) (got100106 (s := (σ.add100003 (p2, ()))) (x := (none, ())))) (by kernel_rfl) (upd100106 (s := ((σ.add100003 (p2, ())).add100106 (none, ())))) (fun w G hl4 hE hH => ?_)
  have hle := Gh.le_trans hle hl4
  refine segO 1 [] [(8, .kv .i r3.2)] (Os := []) trivial hE hH (by kernel_rfl) (fun a hE => ?_)
  refine wpFrom_end (by kernel_rfl) ?_
  refine Exit.then_normal (hK2 _ _ ?_)
  refine wp_seq_k (fun K hK4 => ?_)
  refine wp_block ?_
  refine wp_seq_k (fun K hK5 => ?_)
  refine wp_region_from ?_
  refine segO 3 [] [(15, .kv .bool (r3.2 != 0))] (Os := []) trivial hE hH (by kernel_rfl) (fun a hE => ?_)
  refine wpFrom_end (by kernel_rfl) ?_
  refine Exit.then_normal (hK5 _ _ ?_)
  refine condE (b := r3.2 != 0) hE (by kernel_rfl) (fun hc => ?_) (fun hc => ?_)
  · replace h := ifT hc h
    refine wp_seq_k (fun K hK6 => ?_)
    refine wp_region_from ?_
    refine segO 2 [] [(6, .kv .i r3.2)] (Os := []) trivial hE hH (by kernel_rfl) (fun a hE => ?_)
    refine wpFrom_end (by kernel_rfl) ?_
    refine Exit.then_normal (hK6 _ _ ?_)
    refine wp_ret ?_
    refine Exit.in_ret ?_
    refine Exit.then_ret ?_
    cases h
    exact ret1 rfl hE hle hH (by kernel_rfl)
  · replace h := ifF hc h
    refine wp_seq_k (fun K hK7 => ?_)
    by_cases hc : (decide (p2 < 0)) = true
    · replace h := ifT hc h
      have c8 := hc
      refine region_par 9 [] [(0, 0), (0, 0), (0, 0), (0, 0), (0, 0), (0, 0), (0, 0), (0, 0), (0, 0)] [.kv .i p2, .kv .bool (decide (p2 < 0)), .kv .bool true, .undef, .undef, .undef, .undef, .undef, .undef] (fun _ => tabs (((σ.add100003 (p2, ())).add100106 (none, ())).set100106 ((σ.add100003 (p2, ())).t100106.length) (r3.1, ()))) (fun _ => Ls) (by kernel_rfl) (by kernel_rfl) hE hH
              ⟨⟨⟨⟨⟨⟨⟨⟨⟨trivial,
              anyk (fun k => obR [.ob fs100003 (p2, ())] (Os := [_]) ⟨(ob100003 (s := (((σ.add100003 (p2, ())).add100106 (none, ())).set100106 ((σ.add100003 (p2, ())).t100106.length) (r3.1, ()))) (got100003 (s := σ) (x := (p2, ())))), trivial⟩ (by kernel_rfl) (by kernel_rfl))⟩,
              anyk (fun k => obR [] (Os := []) trivial (by kernel_rfl) (by kernel_rfl))⟩,
              anyk (fun k => obRe [] (Os := []) trivial (by kernel_rfl) (by kernel_rfl) (eb2 c8 rfl))⟩,
              anyk (fun k => obR [] (Os := []) trivial (by kernel_rfl) (by kernel_rfl))⟩,
              anyk (fun k => obR [] (Os := []) trivial (by kernel_rfl) (by kernel_rfl))⟩,
              anyk (fun k => obR [] (Os := []) trivial (by kernel_rfl) (by kernel_rfl))⟩,
              anyk (fun k => obR [] (Os := []) trivial (by kernel_rfl) (by kernel_rfl))⟩,
              anyk (fun k => obR [] (Os := []) trivial (by kernel_rfl) (by kernel_rfl))⟩,
              anyk (fun k => obR [] (Os := []) trivial (by kernel_rfl) (by kernel_rfl))⟩ (fun a w G hl5 hE hH => ?_)
      have hle := Gh.le_trans hle hl5
      refine segO 3 [] [(19, .kv .bool true)] (Os := []) trivial hE hH (by kernel_rfl) (fun a hE => ?_)
      refine wpFrom_end (by kernel_rfl) ?_
      refine Exit.then_normal (hK7 _ _ ?_)
      refine condT hE (by kernel_rfl) rfl ?_
      refine wp_seq_k (fun K hK9 => ?_)
      refine wp_region_from ?_
      refine segO 1 [] [(6, .kv .i 3)] (Os := []) trivial hE hH (by kernel_rfl) (fun a hE => ?_)
      refine wpFrom_end (by kernel_rfl) ?_
      refine Exit.then_normal (hK9 _ _ ?_)
      refine wp_ret ?_
      refine Exit.in_ret ?_
      refine Exit.then_ret ?_
      cases h
      exact ret1 rfl hE hle hH (by kernel_rfl)
    · replace h := ifN hc h
      have c10 := hc
      obtain ⟨i11, hi11, h⟩ := bs h
      obtain ⟨o12, ho12, h⟩ := bs h
      refine region_par 9 [] [(0, 0), (0, 0), (0, 0), (0, 0), (0, 0), (0, 0), (0, 0), (0, 0), (0, 0)] [.kv .i p2, .kv .bool (decide (p2 < 0)), .kv .bool false, .kv .i p2, .kv (.ptr 108) r3.1, .kv (.ptr 108) (some i11), .fldA 108 i11 0, .kv .str o12.1, .kv .i (o12.1.length : Int)] (fun _ => tabs (((σ.add100003 (p2, ())).add100106 (none, ())).set100106 ((σ.add100003 (p2, ())).t100106.length) (r3.1, ()))) (fun _ => Ls) (by kernel_rfl) (by kernel_rfl) hE hH
              ⟨⟨⟨⟨⟨⟨⟨⟨⟨trivial,
              anyk (fun k => obR [.ob fs100003 (p2, ())] (Os := [_]) ⟨(ob100003 (s := (((σ.add100003 (p2, ())).add100106 (none, ())).set100106 ((σ.add100003 (p2, ())).t100106.length) (r3.1, ()))) (got100003 (s := σ) (x := (p2, ())))), trivial⟩ (by kernel_rfl) (by kernel_rfl))⟩,
              anyk (fun k => obR [] (Os := []) trivial (by kernel_rfl) (by kernel_rfl))⟩,
              anyk (fun k => obRe [] (Os := []) trivial (by kernel_rfl) (by kernel_rfl) (eb2 (bf c10) rfl))⟩,
              anyk (fun k => obR [.ob fs100003 (p2, ())] (Os := [_]) ⟨(ob100003 (s := (((σ.add100003 (p2, ())).add100106 (none, ())).set100106 ((σ.add100003 (p2, ())).t100106.length) (r3.1, ()))) (got100003 (s := σ) (x := (p2, ())))), trivial⟩ (by kernel_rfl) (by kernel_rfl))⟩,
              anyk (fun k => obR [.ob fs100106 (r3.1, ())] (Os := [_]) ⟨(ob100106 (s := (((σ.add100003 (p2, ())).add100106 (none, ())).set100106 ((σ.add100003 (p2, ())).t100106.length) (r3.1, ()))) (set100106_get (s := ((σ.add100003 (p2, ())).add100106 (none, ()))) (x := (r3.1, ())) (got100106 (s := (σ.add100003 (p2, ()))) (x := (none, ()))))), trivial⟩ (by kernel_rfl) (by kernel_rfl))⟩,
              anyk (fun k => obR [.pt i11] (Os := [_]) ⟨hi11, trivial⟩ (by kernel_rfl) (by kernel_rfl))⟩,
              anyk (fun k => obR [] (Os := []) trivial (by kernel_rfl) (by kernel_rfl))⟩,
              anyk (fun k => obR [.ob fs108 o12] (Os := [_]) ⟨(ob108 (s := (((σ.add100003 (p2, ())).add100106 (none, ())).set100106 ((σ.add100003 (p2, ())).t100106.length) (r3.1, ()))) ho12), trivial⟩ (by kernel_rfl) (by kernel_rfl))⟩,
              anyk (fun k => obR [] (Os := []) trivial (by kernel_rfl) (by kernel_rfl))⟩ (fun a w G hl6 hE hH => ?_)
      have hle := Gh.le_trans hle hl6
      refine segO 3 [] [(19, .kv .bool (decide (p2 > (o12.1.length : Int))))] (Os := []) trivial hE hH (by kernel_rfl) (fun a hE => ?_)
      refine wpFrom_end (by kernel_rfl) ?_
      refine Exit.then_normal (hK7 _ _ ?_)
      refine condE (b := decide (p2 > (o12.1.length : Int))) hE (by kernel_rfl) (fun hc => ?_) (fun hc => ?_)
      · replace h := ifT hc h
        refine wp_seq_k (fun K hK13 => ?_)
        refine wp_region_from ?_
        refine segO 1 [] [(6, .kv .i 3)] (Os := []) trivial hE hH (by kernel_rfl) (fun a hE => ?_)
        refine wpFrom_end (by kernel_rfl) ?_
        refine Exit.then_normal (hK13 _ _ ?_)
        refine wp_ret ?_
        refine Exit.in_ret ?_
        refine Exit.then_ret ?_
        cases h
        exact ret1 rfl hE hle hH (by kernel_rfl)
      · replace h := ifF hc h
        refine wp_skip ?_
        refine Exit.in_normal ?_
        refine Exit.then_normal (hK4 _ _ ?_)
        refine wp_seq_k (fun K hK14 => ?_)
        refine wp_region_from ?_
        refine segO 1 [] [(31, .kv (.ptr 105) p0)] (Os := []) trivial hE hH (by kernel_rfl) (fun a hE => ?_)
        refine stepMF (f := 79) (l := [(100106, (σ.add100003 (p2, ())).t100106.length), (100003, σ.t100003.length)]) (d := (some 32)) hE (by kernel_rfl) (by kernel_rfl) (fun a hE => ?_)
        obtain ⟨r15, hr15, h⟩ := bs h
        refine stepCall (d := (some 33)) (f72_ok (q1 := 79) (l1 := [(100106, (σ.add100003 (p2, ())).t100106.length), (100003, σ.t100003.length)]) (hq1 := (fun h => f79_ok h)) hr15) hE hH hN (by kernel_rfl) (by kernel_rfl) trivial (fun a w G hl7 hE hH => ?_)
        have hle := Gh.le_trans hle hl7
        refine segO 1 [] [(6, .kv .i r15.1)] (Os := []) trivial hE hH (by kernel_rfl) (fun a hE => ?_)
        refine wpFrom_end (by kernel_rfl) ?_
        refine Exit.then_normal (hK14 _ _ ?_)
        refine wp_ret ?_
        cases h
        exact ret1 rfl hE hle hH (by kernel_rfl)

def f36 (p0 : Option Nat) (p1 : List UInt8) (p2 : List UInt8) (σ : St) : Option (Int × St) :=
  f70 p0 (((σ.add100024 (p0, ())).add100009 (p1, ())).add100009 (p2, ())) >>= fun r4 =>
  if (r4 != 0) = true then
  some (r4, (((σ.add100024 (p0, ())).add100009 (p1, ())).add100009 (p2, ())))
  else
  ((((σ.add100024 (p0, ())).add100009 (p1, ())).add100009 (p2, ())).t100009[(σ.add100024 (p0, ())).t100009.length]?) >>= fun o9 =>
  f71 o9.1 >>= fun r10 =>
  if (!r10) = true then
  some (2, (((σ.add100024 (p0, ())).add100009 (p1, ())).add100009 (p2, ())))
  else
  f71 p2 >>= fun r12 =>
  if (!r12) = true then
  some (2, (((σ.add100024 (p0, ())).add100009 (p1, ())).add100009 (p2, ())))
  else
  f77 p0 o9.1 (((σ.add100024 (p0, ())).add100009 (p1, ())).add100009 (p2, ())) >>= fun r15 =>
  if (r15.2 != 0) = true then
  some (r15.2, (((((σ.add100024 (p0, ())).add100009 (p1, ())).add100009 (p2, ())).add100106 (none, ())).set100106 ((((σ.add100024 (p0, ())).add100009 (p1, ())).add100009 (p2, ())).t100106.length) (r15.1, ())))
  else
  r15.1 >>= fun i20 =>
  ((((((σ.add100024 (p0, ())).add100009 (p1, ())).add100009 (p2, ())).add100106 (none, ())).set100106 ((((σ.add100024 (p0, ())).add100009 (p1, ())).add100009 (p2, ())).t100106.length) (r15.1, ())).t108[i20]?) >>= fun o21 =>
  r15.1 >>= fun i22 =>
  ((((((σ.add100024 (p0, ())).add100009 (p1, ())).add100009 (p2, ())).add100106 (none, ())).set100106 ((((σ.add100024 (p0, ())).add100009 (p1, ())).add100009 (p2, ())).t100106.length) (r15.1, ())).t108[i22]?) >>= fun o23 =>
  if (decide (o21.2.1 < (o23.1.length : Int))) = true then
  some (12, (((((σ.add100024 (p0, ())).add100009 (p1, ())).add100009 (p2, ())).add100106 (none, ())).set100106 ((((σ.add100024 (p0, ())).add100009 (p1, ())).add100009 (p2, ())).t100106.length) (r15.1, ())))
  else
  f72 p0 (f80 σ.t100024.length ((σ.add100024 (p0, ())).t100009.length) ((((σ.add100024 (p0, ())).add100009 (p1, ())).add100009 (p2, ())).t100106.length) (((σ.add100024 (p0, ())).add100009 (p1, ())).t100009.length)) (((((σ.add100024 (p0, ())).add100009 (p1, ())).add100009 (p2, ())).add100106 (none, ())).set100106 ((((σ.add100024 (p0, ())).add100009 (p1, ())).add100009 (p2, ())).t100106.length) (r15.1, ())) >>= fun r26 =>
  some (r26.1, r26.2)

theorem f36_ok {p0 : Option Nat} {p1 : List UInt8} {p2 : List UInt8} {σ : St} {p : Int × St} (h : f36 p0 p1 p2 σ = some p) : Spec Try.prog 36 [.kv (.ptr 105) p0, .kv .str p1, .kv .str p2] (tabs σ) (.kv .i p.1) (tabs p.2) := by
  refine Spec.intro Try.func36 (by kernel_rfl) rfl (by kernel_rfl) (fun a w G0 Ls hE hH hN => ?_)
  have hle : G0.le G0 := Gh.le_refl G0
  unfold f36 at h
  refine wp_seq_k (fun K hK1 => ?_)
  refine wp_region_from ?_
  refine stepNew1 (e := 24) (d := (some 3)) (.ptr 105) p0 hE hH (by kernel_rfl) (by kernel_rfl) (addT100024 (s := σ) (x := (p0, ()))) (fun a w G hl1 hE hH => ?_)
  have hle := Gh.le_trans hle hl1
  refine stepNew1 (e := 9) (d := (some 4)) .str p1 hE hH (by kernel_rfl) (by kernel_rfl) (addT100009 (s := (σ.add100024 (p0, ()))) (x := (p1, ()))) (fun a w G hl2 hE hH => ?_)
  have hle := Gh.le_trans hle hl2
  refine stepNew1 (e := 9) (d := (some 5)) .str p2 hE hH (by kernel_rfl) (by kernel_rfl) (addT100009 (s := ((σ.add100024 (p0, ())).add100009 (p1, ()))) (x := (p2, ()))) (fun a w G hl3 hE hH => ?_)
  have hle := Gh.le_trans hle hl3
  refine segO 1 [] [(6, .kv .i 0)] (Os := []) trivial hE hH (by kernel_rfl) (fun a hE => ?_)
  refine wpFrom_end (by kernel_rfl) ?_
  refine Exit.then_normal (hK1 _ _ ?_)
  refine wp_seq_k (fun K hK2 => ?_)
  refine wp_seq_k (fun K hK3 => ?_)
  refine wp_region_from ?_
  refine segO 1 [.ob fs100024 (p0, ())] [(10, .kv (.ptr 105) p0)] (Os := [_]) ⟨(ob100024 (s := (((σ.add100024 (p0, ())).add100009 (p1, ())).add100009 (p2, ()))) (got100024 (s := σ) (x := (p0, ())))), trivial⟩ hE hH (by kernel_rfl) (fun a hE => ?_)
  obtain ⟨r4, hr4, h⟩ := bs h
  refine stepCall (d := (some 11)) (f70_ok hr4) hE hH hN (by kernel_rfl) (by kernel_rfl) trivial (fun a w G hl4 hE hH => ?_)
  have hle := Gh.le_trans hle hl4
  refine segO 1 [] [(7, .kv .i r4)] (Os := []) trivial hE hH (by kernel_rfl) (fun a hE => ?_)
  refine wpFrom_end (by kernel_rfl) ?_
  refine Exit.then_normal (hK3 _ _ ?_)
  refine wp_seq_k (fun K hK5 => ?_)
  refine wp_region_from ?_
  refine segO 2 [] [(13, .kv .bool (r4 != 0))] (Os := []) trivial hE hH (by kernel_rfl) (fun a hE => ?_)
  refine wpFrom_end (by kernel_rfl) ?_
  refine Exit.then_normal (hK5 _ _ ?_)
  refine condE (b := r4 != 0) hE (by kernel_rfl) (fun hc => ?_) (fun hc => ?_)
  · replace h := ifT hc h
    refine wp_seq_k (fun K hK6 => ?_)
    refine wp_region_from ?_
    refine segO 2 [] [(6, .kv .i r4)] (Os := []) trivial hE hH (by kernel_rfl) (fun a hE => ?_)
    refine wpFrom_end (by kernel_rfl) ?_
    refine Exit.then_normal (hK6 _ _ ?_)
    refine wp_ret ?_
    refine Exit.then_ret ?_
    cases h
    exact ret1 rfl hE hle hH (by kernel_rfl)
  · replace h := ifF hc h
    refine wp_skip ?_
    refine Exit.then_normal (hK2 _ _ ?_)
    refine wp_seq_k (fun K hK7 => ?_)
    refine wp_seq_k (fun K hK8 => ?_)
    refine wp_region_from ?_
    obtain ⟨o9, ho9, h⟩ := bs h
    refine segO 1 [.ob fs100009 o9] [(15, .kv .str o9.1)] (Os := [_]) ⟨(ob100009 (s := (((σ.add100024 (p0, ())).add100009 (p1, ())).add100009 (p2, ()))) ho9), trivial⟩ hE hH (by kernel_rfl) (fun a hE => ?_)
    obtain ⟨r10, hr10, h⟩ := bs h
    refine stepCall (d := (some 16)) (f71_ok hr10) hE hH hN (by kernel_rfl) (by kernel_rfl) trivial (fun a w G hl5 hE hH => ?_)
    have hle := Gh.le_trans hle hl5
    refine segO 2 [] [(18, .kv .bool (!r10))] (Os := []) trivial hE hH (by kernel_rfl) (fun a hE => ?_)
    by_cases hc : (!r10) = true
    · replace h := ifT hc h
      have hE := hE.setB 18 (by kernel_rfl) hc
      refine segO 4 [] [(22, .kv .bool true)] (Os := []) trivial hE hH (by kernel_rfl) (fun a hE => ?_)
      refine wpFrom_end (by kernel_rfl) ?_
      refine Exit.then_normal (hK8 _ _ ?_)
      refine condT hE (by kernel_rfl) rfl ?_
      refine wp_seq_k (fun K hK11 => ?_)
      refine wp_region_from ?_
      refine segO 1 [] [(6, .kv .i 2)] (Os := []) trivial hE hH (by kernel_rfl) (fun a hE => ?_)
      refine wpFrom_end (by kernel_rfl) ?_
      refine Exit.then_normal (hK11 _ _ ?_)
      refine wp_ret ?_
      refine Exit.then_ret ?_
      cases h
      exact ret1 rfl hE hle hH (by kernel_rfl)
    · replace h := ifN hc h
      have hE := hE.setB 18 (by kernel_rfl) (bf hc)
      refine segO 1 [.ob fs100009 (p2, ())] [(19, .kv .str p2)] (Os := [_]) ⟨(ob100009 (s := (((σ.add100024 (p0, ())).add100009 (p1, ())).add100009 (p2, ()))) (got100009 (s := ((σ.add100024 (p0, ())).add100009 (p1, ()))) (x := (p2, ())))), trivial⟩ hE hH (by kernel_rfl) (fun a hE => ?_)
      obtain ⟨r12, hr12, h⟩ := bs h
      refine stepCall (d := (some 20)) (f71_ok hr12) hE hH hN (by kernel_rfl) (by kernel_rfl) trivial (fun a w G hl6 hE hH => ?_)
      have hle := Gh.le_trans hle hl6
      refine segO 2 [] [(22, .kv .bool (!r12))] (Os := []) trivial hE hH (by kernel_rfl) (fun a hE => ?_)
      refine wpFrom_end (by kernel_rfl) ?_
      refine Exit.then_normal (hK8 _ _ ?_)
      refine condE (b := !r12) hE (by kernel_rfl) (fun hc => ?_) (fun hc => ?_)
      · replace h := ifT hc h
        refine wp_seq_k (fun K hK13 => ?_)
        refine wp_region_from ?_
        refine segO 1 [] [(6, .kv .i 2)] (Os := []) trivial hE hH (by kernel_rfl) (fun a hE => ?_)
        refine wpFrom_end (by kernel_rfl) ?_
        refine Exit.then_normal (hK13 _ _ ?_)
        refine wp_ret ?_
        refine Exit.then_ret ?_
        cases h
        exact ret1 rfl hE hle hH (by kernel_rfl)
      · replace h := ifF hc h
        refine wp_skip ?_
        refine Exit.then_normal (hK7 _ _ ?_)
        refine wp_seq_k (fun K hK14 => ?_)
        refine wp_region_from ?_
        refine segO 2 [.ob fs100024 (p0, ()), .ob fs100009 o9] [(24, .kv (.ptr 105) p0), (25, .kv .str o9.1)] (Os := [_, _]) ⟨(ob100024 (s := (((σ.add100024 (p0, ())).add100009 (p1, ())).add100009 (p2, ()))) (got100024 (s := σ) (x := (p0, ())))), (ob100009 (s := (((σ.add100024 (p0, ())).add100009 (p1, ())).add100009 (p2, ()))) ho9), trivial⟩ hE hH (by kernel_rfl) (fun a hE => ?_)
        obtain ⟨r15, hr15, h⟩ := bs h
        refine stepCall (d := (some 26)) (f77_ok hr15) hE hH hN (by kernel_rfl) (by kernel_rfl) trivial (fun a w G hl7 hE hH => ?_)
        have hle := Gh.le_trans hle hl7
        refine segO 3 [] [(27, .kv (.ptr 108) r15.1), (28, .kv .i r15.2)] (Os := []) trivial hE hH (by kernel_rfl) (fun a hE => ?_)
        refine stepAlloc1 (e := 106) (d := (some 8)) (.ptr 108) hE hH (by kernel_rfl) (by kernel_rfl) (addT100106 (s := (((σ.add100024 (p0, ())).add100009 (p1, ())).add100009 (p2, ()))) (x := (none, ()))) (fun a w G hl8 hE hH => ?_)
        have hle := Gh.le_trans hle hl8
        refine stepStO (t := 100106) (j := ((((σ.add100024 (p0, ())).add100009 (p1, ())).add100009 (p2, ())).t100106.length)) (off := 0) (.ptr 108) r15.1 (x' := (r15.1, ())) hE hH (by kernel_rfl) (ob100106 (s := ((((σ.add100024 (p0, ())).add100009 (p1, ())).add100009 (p2, ())).add100106 (none, ()))) (got100106 (s := (((σ.add100024 (p0, ())).add100009 (p1, ())).add100009 (p2, ()))) (x := (none, ())))) (by kernel_rfl) (upd100106 (s := ((((σ.add100024 (p0, ())).add100009 (p1, ())).add100009 (p2, ())).add100106 (none, ())))) (fun w G hl9 hE hH => ?_)
        have hle := Gh.le_trans hle hl9
        refine segO 1 [] [(9, .kv .i r15.2)] (Os := []) trivial hE hH (by kernel_rfl) (fun a hE => ?_)
        refine wpFrom_end (by kernel_rfl) ?_
        refine Exit.then_normal (hK14 _ _ ?_)
        refine wp_seq_k (fun K hK16 => ?_)
        refine wp_block ?_
        refine wp_seq_k (fun K hK17 => ?_)
        refine wp_region_from ?_
        refine segO 3 [] [(29, .kv .bool (r15.2 != 0))] (Os := []) trivial hE hH (by kernel_rfl) (fun a hE => ?_)
        refine wpFrom_end (by kernel_rfl) ?_
        refine Exit.then_normal (hK17 _ _ ?_)
        refine condE (b := r15.2 != 0) hE (by kernel_rfl) (fun hc => ?_) (fun hc => ?_)
        · replace h := ifT hc h
          refine wp_seq_k (fun K hK18 => ?_)
          refine wp_region_from ?_
          refine segO 2 [] [(6, .kv .i r15.2)] (Os := []) trivial hE hH (by kernel_rfl) (fun a hE => ?_)
          refine wpFrom_end (by kernel_rfl) ?_
          refine Exit.then_normal (hK18 _ _ ?_)
          refine wp_ret ?_
          refine Exit.in_ret ?_
          refine Exit.then_ret ?_
          cases h
          exact ret1 rfl hE hle hH (by kernel_rfl)
        · replace h := ifF hc h
          refine wp_seq_k (fun K hK19 => ?_)
          obtain ⟨i20, hi20, h⟩ := bs h
          obtain ⟨o21, ho21, h⟩ := bs h
          obtain ⟨i22, hi22, h⟩ := bs h
          obtain ⟨o23, ho23, h⟩ := bs h
          refine region_par 9 [] [(0, 0), (0, 0), (0, 0), (0, 0), (0, 0), (0, 0), (0, 0), (0, 0), (0, 0)] [.kv (.ptr 108) r15.1, .kv (.ptr 108) (some i20), .fldA 108 i20 1, .kv .i o21.2.1, .kv (.ptr 108) r15.1, .kv (.ptr 108) (some i22), .fldA 108 i22 0, .kv .str o23.1, .kv .i (o23.1.length : Int)] (fun _ => tabs (((((σ.add100024 (p0, ())).add100009 (p1, ())).add100009 (p2, ())).add100106 (none, ())).set100106 ((((σ.add100024 (p0, ())).add100009 (p1, ())).add100009 (p2, ())).t100106.length) (r15.1, ()))) (fun _ => Ls) (by kernel_rfl) (by kernel_rfl) hE hH
                  ⟨⟨⟨⟨⟨⟨⟨⟨⟨trivial,
                  anyk (fun k => obR [.ob fs100106 (r15.1, ())] (Os := [_]) ⟨(ob100106 (s := (((((σ.add100024 (p0, ())).add100009 (p1, ())).add100009 (p2, ())).add100106 (none, ())).set100106 ((((σ.add100024 (p0, ())).add100009 (p1, ())).add100009 (p2, ())).t100106.length) (r15.1, ()))) (set100106_get (s := ((((σ.add100024 (p0, ())).add100009 (p1, ())).add100009 (p2, ())).add100106 (none, ()))) (x := (r15.1, ())) (got100106 (s := (((σ.add100024 (p0, ())).add100009 (p1, ())).add100009 (p2, ()))) (x := (none, ()))))), trivial⟩ (by kernel_rfl) (by kernel_rfl))⟩,
                  anyk (fun k => obR [.pt i20] (Os := [_]) ⟨hi20, trivial⟩ (by kernel_rfl) (by kernel_rfl))⟩,
                  anyk (fun k => obR [] (Os := []) trivial (by kernel_rfl) (by kernel_rfl))⟩,
                  anyk (fun k => obR [.ob fs108 o21] (Os := [_]) ⟨(ob108 (s := (((((σ.add100024 (p0, ())).add100009 (p1, ())).add100009 (p2, ())).add100106 (none, ())).set100106 ((((σ.add100024 (p0, ())).add100009 (p1, ())).add100009 (p2, ())).t100106.length) (r15.1, ()))) ho21), trivial⟩ (by kernel_rfl) (by kernel_rfl))⟩,
                  anyk (fun k => obR [.ob fs100106 (r15.1, ())] (Os := [_]) ⟨(ob100106 (s := (((((σ.add100024 (p0, ())).add100009 (p1, ())).add100009 (p2, ())).add100106 (none, ())).set100106 ((((σ.add100024 (p0, ())).add100009 (p1, ())).add100009 (p2, ())).t100106.length) (r15.1, ()))) (set100106_get (s := ((((σ.add100024 (p0, ())).add100009 (p1, ())).add100009 (p2, ())).add100106 (none, ()))) (x := (r15.1, ())) (got100106 (s := (((σ.add100024 (p0, ())).add100009 (p1, ())).add100009 (p2, ()))) (x := (none, ()))))), trivial⟩ (by kernel_rfl) (by kernel_rfl))⟩,
                  anyk (fun k => obR [.pt i22] (Os := [_]) ⟨hi22, trivial⟩ (by kernel_rfl) (by kernel_rfl))⟩,
                  anyk (fun k => obR [] (Os := []) trivial (by kernel_rfl) (by kernel_rfl))⟩,
                  anyk (fun k => obR [.ob fs108 o23] (Os := [_]) ⟨(ob108 (s := (((((σ.add100024 (p0, ())).add100009 (p1, ())).add100009 (p2, ())).add100106 (none, ())).set100106 ((((σ.add100024 (p0, ())).add100009 (p1, ())).add100009 (p2, ())).t100106.length) (r15.1, ()))) ho23), trivial⟩ (by kernel_rfl) (by kernel_rfl))⟩,
                  anyk (fun k => obR [] (Os := []) trivial (by kernel_rfl) (by kernel_rfl))⟩ (fun a w G hl10 hE hH => ?_)
          have hle := Gh.le_trans hle hl10
          refine segO 2 [] [(33, .kv .bool (decide (o21.2.1 < (o23.1.length : Int))))] (Os := []) trivial hE hH (by kernel_rfl) (fun a hE => ?_)
          refine wpFrom_end (by kernel_rfl) ?_
          refine Exit.then_normal (hK19 _ _ ?_)
          refine condE (b := decide (o21.2.1 < (o23.1.length : Int))) hE (by kernel_rfl) (fun hc => ?_) (fun hc => ?_)
          · replace h := ifT hc h
            refine wp_seq_k (fun K hK24 => ?_)
            refine wp_region_from ?_
            refine segO 1 [] [(6, .kv .i 12)] (Os := []) trivial hE hH (by kernel_rfl) (fun a hE => ?_)
            refine wpFrom_end (by kernel_rfl) ?_
            refine Exit.then_normal (hK24 _ _ ?_)
            refine wp_ret ?_
            refine Exit.in_ret ?_
            refine Exit.then_ret ?_
            cases h
            exact ret1 rfl hE hle hH (by kernel_rfl)
          · replace h := ifF hc h
            refine wp_skip ?_
            refine Exit.in_normal ?_
            refine Exit.then_normal (hK16 _ _ ?_)
            refine wp_seq_k (fun K hK25 => ?_)
            refine wp_region_from ?_
            refine segO 1 [.ob fs100024 (p0, ())] [(44, .kv (.ptr 105) p0)] (Os := [_]) ⟨(ob100024 (s := (((((σ.add100024 (p0, ())).add100009 (p1, ())).add100009 (p2, ())).add100106 (none, ())).set100106 ((((σ.add100024 (p0, ())).add100009 (p1, ())).add100009 (p2, ())).t100106.length) (r15.1, ()))) (got100024 (s := σ) (x := (p0, ())))), trivial⟩ hE hH (by kernel_rfl) (fun a hE => ?_)
            refine stepMF (f := 80) (l := [(100024, σ.t100024.length), (100009, (σ.add100024 (p0, ())).t100009.length), (100106, (((σ.add100024 (p0, ())).add100009 (p1, ())).add100009 (p2, ())).t100106.length), (100009, ((σ.add100024 (p0, ())).add100009 (p1, ())).t100009.length)]) (d := (some 45)) hE (by kernel_rfl) (by kernel_rfl) (fun a hE => ?_)
            obtain ⟨r26, hr26, h⟩ := bs h
            refine stepCall (d := (some 46)) (f72_ok (q1 := 80) (l1 := [(100024, σ.t100024.length), (100009, (σ.add100024 (p0, ())).t100009.length), (100106, (((σ.add100024 (p0, ())).add100009 (p1, ())).add100009 (p2, ())).t100106.length), (100009, ((σ.add100024 (p0, ())).add100009 (p1, ())).t100009.length)]) (hq1 := (fun h => f80_ok h)) hr26) hE hH hN (by kernel_rfl) (by kernel_rfl) trivial (fun a w G hl11 hE hH => ?_)
            have hle := Gh.le_trans hle hl11
            refine segO 1 [] [(6, .kv .i r26.1)] (Os := []) trivial hE hH (by kernel_rfl) (fun a hE => ?_)
            refine wpFrom_end (by kernel_rfl) ?_
            refine Exit.then_normal (hK25 _ _ ?_)
            refine wp_ret ?_
            cases h
            exact ret1 rfl hE hle hH (by kernel_rfl)

def f37 (p0 : Option Nat) (p1 : List UInt8) (σ : St) : Option (Int × St) :=
  f77 p0 p1 ((σ.add100024 (p0, ())).add100009 (p1, ())) >>= fun r4 =>
  if (r4.2 != 0) = true then
  some (r4.2, ((σ.add100024 (p0, ())).add100009 (p1, ())))
  else
  f72 p0 (f81 σ.t100024.length ((σ.add100024 (p0, ())).t100009.length)) ((σ.add100024 (p0, ())).add100009 (p1, ())) >>= fun r8 =>
  some (r8.1, r8.2)

theorem f37_ok {p0 : Option Nat} {p1 : List UInt8} {σ : St} {p : Int × St} (h : f37 p0 p1 σ = some p) : Spec Try.prog 37 [.kv (.ptr 105) p0, .kv .str p1] (tabs σ) (.kv .i p.1) (tabs p.2) := by
  refine Spec.intro Try.func37 (by kernel_rfl) rfl (by kernel_rfl) (fun a w G0 Ls hE hH hN => ?_)
  have hle : G0.le G0 := Gh.le_refl G0
  unfold f37 at h
  refine wp_seq_k (fun K hK1 => ?_)
  refine wp_region_from ?_
  refine stepNew1 (e := 24) (d := (some 2)) (.ptr 105) p0 hE hH (by kernel_rfl) (by kernel_rfl) (addT100024 (s := σ) (x := (p0, ()))) (fun a w G hl1 hE hH => ?_)
  have hle := Gh.le_trans hle hl1
  refine stepNew1 (e := 9) (d := (some 3)) .str p1 hE hH (by kernel_rfl) (by kernel_rfl) (addT100009 (s := (σ.add100024 (p0, ()))) (x := (p1, ()))) (fun a w G hl2 hE hH => ?_)
  have hle := Gh.le_trans hle hl2
  refine segO 1 [] [(4, .kv .i 0)] (Os := []) trivial hE hH (by kernel_rfl) (fun a hE => ?_)
  refine wpFrom_end (by kernel_rfl) ?_
  refine Exit.then_normal (hK1 _ _ ?_)
  refine wp_seq_k (fun K hK2 => ?_)
  refine wp_seq_k (fun K hK3 => ?_)
  refine wp_region_from ?_
  refine segO 2 [.ob fs100024 (p0, ()), .ob fs100009 (p1, ())] [(8, .kv (.ptr 105) p0), (9, .kv .str p1)] (Os := [_, _]) ⟨(ob100024 (s := ((σ.add100024 (p0, ())).add100009 (p1, ()))) (got100024 (s := σ) (x := (p0, ())))), (ob100009 (s := ((σ.add100024 (p0, ())).add100009 (p1, ()))) (got100009 (s := (σ.add100024 (p0, ()))) (x := (p1, ())))), trivial⟩ hE hH (by kernel_rfl) (fun a hE => ?_)
  obtain ⟨r4, hr4, h⟩ := bs h
  refine stepCall (d := (some 10)) (f77_ok hr4) hE hH hN (by kernel_rfl) (by kernel_rfl) trivial (fun a w G hl3 hE hH => ?_)
  have hle := Gh.le_trans hle hl3
  refine segO 5 [] [(6, .kv .i r4.2)] (Os := []) trivial hE hH (by kernel_rfl) (fun a hE => ?_)
  refine wpFrom_end (by kernel_rfl) ?_
  refine Exit.then_normal (hK3 _ _ ?_)
  refine wp_seq_k (fun K hK5 => ?_)
  refine wp_region_from ?_
  refine segO 2 [] [(14, .kv .bool (r4.2 != 0))] (Os := []) trivial hE hH (by kernel_rfl) (fun a hE => ?_)
  refine wpFrom_end (by kernel_rfl) ?_
  refine Exit.then_normal (hK5 _ _ ?_)
  refine condE (b := r4.2 != 0) hE (by kernel_rfl) (fun hc => ?_) (fun hc => ?_)
  · replace h := ifT hc h
    refine wp_seq_k (fun K hK6 => ?_)
    refine wp_region_from ?_
    refine segO 2 [] [(4, .kv .i r4.2)] (Os := []) trivial hE hH (by kernel_rfl) (fun a hE => ?_)
    refine wpFrom_end (by kernel_rfl) ?_
    refine Exit.then_normal (hK6 _ _ ?_)
    refine wp_ret ?_
    refine Exit.then_ret ?_
    cases h
    exact ret1 rfl hE hle hH (by kernel_rfl)
  · replace h := ifF hc h
    refine wp_skip ?_
    refine Exit.then_normal (hK2 _ _ ?_)
    refine wp_seq_k (fun K hK7 => ?_)
    refine wp_region_from ?_
    refine segO 1 [.ob fs100024 (p0, ())] [(16, .kv (.ptr 105) p0)] (Os := [_]) ⟨(ob100024 (s := ((σ.add100024 (p0, ())).add100009 (p1, ()))) (got100024 (s := σ) (x := (p0, ())))), trivial⟩ hE hH (by kernel_rfl) (fun a hE => ?_)
    refine stepMF (f := 81) (l := [(100024, σ.t100024.length), (100009, (σ.add100024 (p0, ())).t100009.length)]) (d := (some 17)) hE (by kernel_rfl) (by kernel_rfl) (fun a hE => ?_)
    obtain ⟨r8, hr8, h⟩ := bs h
    refine stepCall (d := (some 18)) (f72_ok (q1 := 81) (l1 := [(100024, σ.t100024.length), (100009, (σ.add100024 (p0, ())).t100009.length)]) (hq1 := (fun h => f81_ok h)) hr8) hE hH hN (by kernel_rfl) (by kernel_rfl) trivial (fun a w G hl4 hE hH => ?_)
    have hle := Gh.le_trans hle hl4
    refine segO 1 [] [(4, .kv .i r8.1)] (Os := []) trivial hE hH (by kernel_rfl) (fun a hE => ?_)
    refine wpFrom_end (by kernel_rfl) ?_
    refine Exit.then_normal (hK7 _ _ ?_)
    refine wp_ret ?_
    cases h
    exact ret1 rfl hE hle hH (by kernel_rfl)

def f18 (p0 : Int) (σ : St) : Option (((Option Nat) × Int) × St) :=
  if ((decide (p0 < 0)) || (decide (p0 > 1048576))) = true then
  some ((none, 2), σ)
  else
  some ((some σ.t105.length, 0), (σ.add105 (p0, [], 0, false, ())))

theorem f18_ok {p0 : Int} {σ : St} {p : ((Option Nat) × Int) × St} (h : f18 p0 σ = some p) : Spec Try.prog 18 [.kv .i p0] (tabs σ) (.tup [⟨(.ptr 105), p.1.1⟩, ⟨.i, p.1.2⟩]) (tabs p.2) := by
  refine Spec.intro Try.func18 (by kernel_rfl) rfl (by kernel_rfl) (fun a w G0 Ls hE hH hN => ?_)
  have hle : G0.le G0 := Gh.le_refl G0
  unfold f18 at h
  refine wp_seq_k (fun K hK1 => ?_)
  refine wp_region_from ?_
  refine segO 2 [] [(2, .val (.pointer none)), (3, .kv .i 0)] (Os := []) trivial hE hH (by kernel_rfl) (fun a hE => ?_)
  refine wpFrom_end (by kernel_rfl) ?_
  refine Exit.then_normal (hK1 _ _ ?_)
  refine wp_seq_k (fun K hK2 => ?_)
  refine wp_seq_k (fun K hK3 => ?_)
  refine wp_region_from ?_
  refine segO 6 [] [(9, .kv .bool ((decide (p0 < 0)) || (decide (p0 > 1048576))))] (Os := []) trivial hE hH (by kernel_rfl) (fun a hE => ?_)
  refine wpFrom_end (by kernel_rfl) ?_
  refine Exit.then_normal (hK3 _ _ ?_)
  refine condE (b := (decide (p0 < 0)) || (decide (p0 > 1048576))) hE (by kernel_rfl) (fun hc => ?_) (fun hc => ?_)
  · replace h := ifT hc h
    refine wp_seq_k (fun K hK4 => ?_)
    refine wp_region_from ?_
    refine segO 2 [] [(2, .val (.pointer none)), (3, .kv .i 2)] (Os := []) trivial hE hH (by kernel_rfl) (fun a hE => ?_)
    refine wpFrom_end (by kernel_rfl) ?_
    refine Exit.then_normal (hK4 _ _ ?_)
    refine wp_ret ?_
    refine Exit.then_ret ?_
    cases h
    exact ret2 rfl hE hle hH (by kernel_rfl)
  · replace h := ifF hc h
    refine wp_skip ?_
    refine Exit.then_normal (hK2 _ _ ?_)
    refine wp_seq_k (fun K hK5 => ?_)
    refine wp_region_from ?_
    refine segO 1 [] [(10, .kv .i p0)] (Os := []) trivial hE hH (by kernel_rfl) (fun a hE => ?_)
    refine stepMakeMap (d := (some 11)) .str (.ptr 108) hE hH (by kernel_rfl) (by kernel_rfl) (fun b6 a w G hl1 hE hH => ?_)
    have hle := Gh.le_trans hle hl1
    refine stepBuildV (d := (some 12)) (.agg #[.int .i64 p0, .map (some b6), .int .i64 0, .bool false]) hE (by kernel_rfl) (by kernel_rfl) (fun a hE => ?_)
    refine stepNewM (t := 105) (f := 1) (fs := fs105) (x := (p0, [], 0, false, ())) (e := 105) (d := (some 13)) (.agg #[.int .i64 p0, .map (some b6), .int .i64 0, .bool false]) hE hH (by kernel_rfl) (by kernel_rfl) (fun w2 G2 hf ⟨es, cl, hh, hm⟩ => ⟨[_], _, rfl, rfl, ⟨[_], _, rfl, ⟨_, _, _, rfl, hf, hh, hm⟩, ⟨[_], _, rfl, rfl, ⟨[_], _, rfl, rfl, rfl⟩⟩⟩⟩) (addT105 (s := σ) (x := (p0, [], 0, false, ()))) (fun a w G hl2 hE hH => ?_)
    have hle := Gh.le_trans hle hl2
    refine segO 2 [] [(2, .fldA 105 σ.t105.length 0), (3, .kv .i 0)] (Os := []) trivial hE hH (by kernel_rfl) (fun a hE => ?_)
    refine wpFrom_end (by kernel_rfl) ?_
    refine Exit.then_normal (hK5 _ _ ?_)
    refine wp_ret ?_
    cases h
    exact ret2 rfl hE hle hH (by kernel_rfl)
end Go.Proofs.Ytlfemhkabjafeaa.M

/- Plain law, part 0: names; small facts. -/
set_option linter.unusedVariables false
set_option linter.unusedSimpArgs false
namespace Go.Proofs.Ytlfemhkabjafeaa.M

theorem wrap_id {x : Int} (h1 : -9223372036854775808 ≤ x) (h2 : x < 9223372036854775808) : IntKind.wrap .i64 x = x := by
  rw [IntKind.wrap_i64]; omega

/-- May a file's name hold this byte? -/
def okc (c : UInt8) : Bool := (97 ≤ c.toNat && c.toNat ≤ 122) || (48 ≤ c.toNat && c.toNat ≤ 57) || c.toNat == 46 || c.toNat == 45 || c.toNat == 95

def okName (s : List UInt8) : Bool := s.all okc && (0 < s.length && s.length ≤ 24)

theorem btS_at {s : List UInt8} {n : Nat} (h : n < s.length) : btS s (n : Int) = (s[n].toNat : Int) := by
  simp [btS, h]

theorem f71_loop (s : List UInt8) (hs : s.length < 9223372036854775808) : ∀ (k n : Nat), n + k = s.length → f71_l0 s (n : Int) = some (cond ((s.drop n).all okc) (.inl (s.length : Int)) (.inr false))
  | 0, n, h => by
    rw [f71_l0]
    have : n = s.length := by omega
    subst this
    simp
  | k + 1, n, h => by
    rw [f71_l0]
    have hn : n < s.length := by omega
    have ih := f71_loop s hs k (n + 1) (by omega)
    have hw : IntKind.wrap .i64 ((n : Int) + 1) = ((n + 1 : Nat) : Int) := by rw [wrap_id (by omega) (by omega)]; omega
    rw [btS_at hn, hw, ih]
    have hd : s.drop n = s[n] :: s.drop (n + 1) := by simp
    rw [hd]
    simp only [List.all_cons]
    have h1 : ((n : Int) < (s.length : Int)) := by omega
    have h0 : (0 : Int) ≤ (n : Int) := by omega
    simp only [h1, h0, decide_true, if_true, and_self]
    by_cases hc : okc s[n] = true
    · have : ((((((decide ((s[n].toNat : Int) < 97)) || (decide ((s[n].toNat : Int) > 122))) && ((decide ((s[n].toNat : Int) < 48)) || (decide ((s[n].toNat : Int) > 57)))) && ((s[n].toNat : Int) != 46)) && ((s[n].toNat : Int) != 45)) && ((s[n].toNat : Int) != 95)) = false := by
        unfold okc at hc
        simp only [Bool.or_eq_true, Bool.and_eq_true, decide_eq_true_eq, beq_iff_eq] at hc
        rw [Bool.eq_false_iff]
        simp only [ne_eq, Bool.and_eq_true, Bool.or_eq_true, decide_eq_true_eq, bne_iff_ne]
        omega
      rw [this, hc]
      simp
    · have : ((((((decide ((s[n].toNat : Int) < 97)) || (decide ((s[n].toNat : Int) > 122))) && ((decide ((s[n].toNat : Int) < 48)) || (decide ((s[n].toNat : Int) > 57)))) && ((s[n].toNat : Int) != 46)) && ((s[n].toNat : Int) != 45)) && ((s[n].toNat : Int) != 95)) = true := by
        unfold okc at hc
        simp only [Bool.or_eq_true, Bool.and_eq_true, decide_eq_true_eq, beq_iff_eq] at hc
        simp only [Bool.and_eq_true, Bool.or_eq_true, decide_eq_true_eq, bne_iff_ne]
        omega
      rw [this]
      simp only [Bool.not_eq_true] at hc
      rw [hc]
      simp

theorem f71_eq (s : List UInt8) (hs : s.length < 9223372036854775808) : f71 s = some (okName s) := by
  unfold f71
  rw [show (0 : Int) = ((0 : Nat) : Int) from rfl, f71_loop s hs s.length 0 (by omega)]
  simp only [List.drop_zero]
  unfold okName
  by_cases h : s.all okc = true
  · rw [h]; simp
    congr 1
    exact decide_eq_decide.2 (by omega)
  · simp only [Bool.not_eq_true] at h
    rw [h]; simp
theorem ix_at {α : Type} {l : List α} {n : Nat} (h : n < l.length) : ix l (n : Int) = some l[n] := by
  simp [ix, h]

end Go.Proofs.Ytlfemhkabjafeaa.M

/- Plain law: digits. -/
set_option linter.unusedVariables false
set_option linter.unusedSimpArgs false
namespace Go.Proofs.Ytlfemhkabjafeaa.M

theorem wrap8_id {x : Int} (h1 : 0 ≤ x) (h2 : x < 256) : IntKind.wrap .u8 x = x := by
  have : IntKind.wrap .u8 x = x % 256 := by simp [IntKind.wrap, IntKind.bits, IntKind.signed]
  rw [this]; omega

theorem wrap8 (x : Int) : IntKind.wrap .u8 x = x % 256 := by simp [IntKind.wrap, IntKind.bits, IntKind.signed]

/-- A digit's byte. -/
def dgt (n : Nat) : UInt8 := UInt8.ofNat (48 + n)

theorem dgt_nat {n : Nat} (h : n < 10) : (dgt n).toNat = 48 + n := by
  unfold dgt
  rw [UInt8.toNat_ofNat_of_lt' (by show 48 + n < 256; omega)]

/-- A number's digits. -/
def dig (n : Nat) : List UInt8 := if n < 10 then [dgt n] else dig (n / 10) ++ [dgt (n % 10)]
termination_by n
decreasing_by omega

theorem dig_small {n : Nat} (h : n < 10) : dig n = [dgt n] := by rw [dig, if_pos h]
theorem dig_big {n : Nat} (h : ¬ n < 10) : dig n = dig (n / 10) ++ [dgt (n % 10)] := by rw [dig, if_neg h]

theorem dig_len : ∀ (k n : Nat), n < 10 ^ (k + 1) → (dig n).length ≤ k + 1 := by
  intro k
  induction k with
  | zero => intro n h; rw [dig_small (by simpa using h)]; simp
  | succ k ih =>
    intro n h
    by_cases c : n < 10
    · rw [dig_small c]; simp
    · rw [dig_big c, List.length_append]
      have := ih (n / 10) (by rw [Nat.div_lt_iff_lt_mul (by decide)]; rw [Nat.pow_succ] at h; exact h)
      simp only [List.length_cons, List.length_nil]; omega

theorem dig_len13 {n : Nat} (h : n ≤ 1099511627776) : (dig n).length ≤ 13 := dig_len 12 n (by omega)

theorem dig_pos (n : Nat) : 0 < (dig n).length := by
  by_cases c : n < 10
  · rw [dig_small c]; simp
  · rw [dig_big c]; simp

theorem dig_all (n : Nat) : ∀ c ∈ dig n, 48 ≤ c.toNat ∧ c.toNat ≤ 57 := by
  induction n using Nat.strongRecOn with
  | ind n ih =>
    intro c hc
    by_cases h : n < 10
    · rw [dig_small h] at hc
      simp only [List.mem_cons, List.not_mem_nil, or_false] at hc
      subst hc; rw [dgt_nat h]; omega
    · rw [dig_big h, List.mem_append] at hc
      rcases hc with hc | hc
      · exact ih _ (by omega) c hc
      · simp only [List.mem_cons, List.not_mem_nil, or_false] at hc
        subst hc; rw [dgt_nat (by omega)]; omega

/-- What digits come to. -/
def valD (v : Nat) (s : List UInt8) : Nat := s.foldl (fun v c => v * 10 + (c.toNat - 48)) v

theorem valD_app (v : Nat) (s t : List UInt8) : valD v (s ++ t) = valD (valD v s) t := by unfold valD; rw [List.foldl_append]

theorem valD_cons (v : Nat) (c : UInt8) (r : List UInt8) : valD v (c :: r) = valD (v * 10 + (c.toNat - 48)) r := by unfold valD; rw [List.foldl_cons]

theorem valD_dig (n : Nat) : valD 0 (dig n) = n := by
  induction n using Nat.strongRecOn with
  | ind n ih =>
    by_cases h : n < 10
    · rw [dig_small h]; simp only [valD, List.foldl_cons, List.foldl_nil]; rw [dgt_nat h]; omega
    · rw [dig_big h, valD_app, ih _ (by omega)]
      simp only [valD, List.foldl_cons, List.foldl_nil]; rw [dgt_nat (by omega)]; omega

theorem dig_inj {m n : Nat} (h : dig m = dig n) : m = n := by rw [← valD_dig m, h, valD_dig]

theorem valD_mono (v : Nat) (s : List UInt8) : v ≤ valD v s := by
  induction s generalizing v with
  | nil => exact Nat.le_refl _
  | cons c r ih =>
    have := ih (v * 10 + (c.toNat - 48))
    simp only [valD, List.foldl_cons] at this ⊢
    omega

theorem okc_dig {c : UInt8} (h : 48 ≤ c.toNat ∧ c.toNat ≤ 57) : okc c = true := by
  unfold okc
  simp only [Bool.or_eq_true, Bool.and_eq_true, decide_eq_true_eq, beq_iff_eq]
  omega

end Go.Proofs.Ytlfemhkabjafeaa.M

/- Printed by own program: twins and walks. -/
set_option linter.unusedVariables false
set_option maxRecDepth 100000
namespace Go.Proofs.Ytlfemhkabjafeaa.M

end Go.Proofs.Ytlfemhkabjafeaa.M
