/- Own texts, laid together: V2 V5 V6 S1 X2 VW X3 X4 X5 X6 S4. -/
import Derived.Test.YtlfemhkabjafeaaProg
import Derived.Test.YtlfemhkabjafeaaZ1
import Derived.Test.YtlfemhkabjafeaaZ2
import Derived.Test.YtlfemhkabjafeaaZ3
/- Plain law, part 2: a disk as a plain value, and what each call makes of it. -/
set_option linter.unusedVariables false
set_option linter.unusedSimpArgs false
namespace Go.Proofs.Ytlfemhkabjafeaa.M

/-- A file: its name, its safe bytes, others. -/
abbrev FR : Type := List UInt8 × List UInt8 × List UInt8 × Unit
/-- A disk: its room, its files by rising names, what it is armed to, is it down? -/
abbrev AD : Type := Int × List FR × Int × Bool × Unit
/-- A call: its kind, name, bytes, other name, number, what is kept. -/
abbrev AT : Type := Int × List UInt8 × List UInt8 × List UInt8 × Int × List Int × Unit

/-! ### Order of names -/
theorem u8_irrefl (a : UInt8) : ¬ a < a := UInt8.lt_irrefl a
theorem ltr {a b c : List UInt8} (h1 : a < b) (h2 : b < c) : a < c := List.lt_trans h1 h2
theorem lirr (a : List UInt8) : ¬ a < a := List.lt_irrefl a
theorem lne {a b : List UInt8} (h : a < b) : a ≠ b := fun e => lirr b (e ▸ h)
theorem ltri {a b : List UInt8} (h1 : ¬ a < b) (h2 : a ≠ b) : b < a := by
  have h : b ≤ a := List.not_lt.1 h1
  rcases List.le_iff_lt_or_eq.1 h with h | h
  · exact h
  · exact absurd h.symm h2

/-! ### Files -/
def fsize (f : FR) : Nat := f.2.1.length + f.2.2.1.length
def usedL : List FR → Nat
  | [] => 0
  | f :: r => fsize f + usedL r
def findL (s : List UInt8) : List FR → Option FR
  | [] => none
  | f :: r => cond (f.1 == s) (some f) (findL s r)
def setL (f : FR) : Bool → List FR → List FR
  | done, [] => cond done [] [f]
  | done, g :: r => (cond (!done && !decide (g.1 < f.1)) [f] []) ++ ((cond (g.1 == f.1) [] [g]) ++ setL f (done || !decide (g.1 < f.1)) r)
def dropL (s : List UInt8) : List FR → List FR
  | [] => []
  | f :: r => (cond (f.1 == s) [] [f]) ++ dropL s r

theorem usedL_append (l l' : List FR) : usedL (l ++ l') = usedL l + usedL l' := by
  induction l with
  | nil => simp [usedL]
  | cons f r ih => simp only [List.cons_append, usedL, ih]; omega

theorem usedL_perm {l l' : List FR} (h : l.Perm l') : usedL l = usedL l' := by
  induction h with
  | nil => rfl
  | cons f _ ih => simp [usedL, ih]
  | swap f g r => simp only [usedL]; omega
  | trans _ _ h1 h2 => rw [h1, h2]

theorem dropL_eq (s : List UInt8) (L : List FR) : dropL s L = L.filter (fun g => !(g.1 == s)) := by
  induction L with
  | nil => rfl
  | cons f r ih => 
    cases h : (f.1 == s)
    · rw [List.filter_cons_of_pos (by simp [h])]; simp [dropL, h, ih]
    · rw [List.filter_cons_of_neg (by simp [h])]; simp [dropL, h, ih]

theorem setL_true (f : FR) (L : List FR) : setL f true L = dropL f.1 L := by
  induction L with
  | nil => rfl
  | cons g r ih => simp [setL, dropL, ih]

theorem setL_perm (f : FR) (L : List FR) : (setL f false L).Perm (f :: dropL f.1 L) := by
  induction L with
  | nil => exact List.Perm.refl _
  | cons g r ih =>
    simp only [setL, dropL]
    by_cases h : g.1 < f.1
    · have hb : (g.1 == f.1) = false := by simpa using lne h
      simp only [h, decide_true, Bool.not_true, Bool.and_false, cond_false, hb, Bool.or_self, List.nil_append, List.singleton_append]
      exact (List.Perm.cons g ih).trans (List.Perm.swap f g _)
    · simp only [h, decide_false, Bool.not_false, Bool.and_self, cond_true, Bool.or_true, setL_true, List.singleton_append]
      exact List.Perm.refl _

theorem mem_dropL {s : List UInt8} {L : List FR} {g : FR} : g ∈ dropL s L ↔ g ∈ L ∧ g.1 ≠ s := by
  rw [dropL_eq, List.mem_filter]; simp

theorem mem_setL {f : FR} {L : List FR} {g : FR} : g ∈ setL f false L ↔ g = f ∨ (g ∈ L ∧ g.1 ≠ f.1) := by
  rw [(setL_perm f L).mem_iff, List.mem_cons, mem_dropL]

abbrev SortL (L : List FR) : Prop := L.Pairwise (fun f g => f.1 < g.1)

theorem SortL.drop {L : List FR} (h : SortL L) (s : List UInt8) : SortL (dropL s L) := by
  rw [dropL_eq]; exact h.filter _

theorem SortL.set {f : FR} {L : List FR} (h : SortL L) : SortL (setL f false L) := by
  induction L with
  | nil => simp [setL, SortL]
  | cons g r ih =>
    have hr := List.pairwise_cons.1 h
    simp only [setL]
    by_cases hg : g.1 < f.1
    · have hb : (g.1 == f.1) = false := by simpa using lne hg
      simp only [hg, decide_true, Bool.not_true, Bool.and_false, cond_false, hb, Bool.or_self, List.nil_append, List.singleton_append]
      refine List.pairwise_cons.2 ⟨fun x hx => ?_, ih hr.2⟩
      rcases mem_setL.1 hx with rfl | ⟨hx, _⟩
      · exact hg
      · exact hr.1 x hx
    · simp only [hg, decide_false, Bool.not_false, Bool.and_self, cond_true, Bool.or_true, setL_true, List.singleton_append]
      have hd : SortL (cond (g.1 == f.1) [] [g] ++ dropL f.1 r) := h.drop f.1
      refine List.pairwise_cons.2 ⟨fun x hx => ?_, hd⟩
      have hx' : x ∈ dropL f.1 (g :: r) := hx
      obtain ⟨hx1, hx2⟩ := mem_dropL.1 hx'
      rcases List.mem_cons.1 hx1 with rfl | hx1
      · exact ltri hg hx2
      · by_cases he : g.1 = f.1
        · rw [← he]; exact hr.1 x hx1
        · exact ltr (ltri hg he) (hr.1 x hx1)

theorem findL_some {s : List UInt8} {L : List FR} {f : FR} (h : findL s L = some f) : f ∈ L ∧ f.1 = s := by
  induction L with
  | nil => simp [findL] at h
  | cons g r ih =>
    simp only [findL] at h
    cases hg : (g.1 == s)
    · rw [hg] at h; obtain ⟨h1, h2⟩ := ih h; exact ⟨List.mem_cons_of_mem _ h1, h2⟩
    · rw [hg] at h; simp only [cond_true, Option.some.injEq] at h; subst h; exact ⟨List.mem_cons_self, by simpa using hg⟩

theorem findL_none {s : List UInt8} {L : List FR} (h : findL s L = none) : ∀ f ∈ L, f.1 ≠ s := by
  induction L with
  | nil => simp
  | cons g r ih =>
    simp only [findL] at h
    cases hg : (g.1 == s)
    · rw [hg] at h
      intro f hf
      rcases List.mem_cons.1 hf with rfl | hf
      · simpa using hg
      · exact ih h f hf
    · rw [hg] at h; simp at h

theorem findL_of {s : List UInt8} {L : List FR} (hs : SortL L) {f : FR} (h1 : f ∈ L) (h2 : f.1 = s) : findL s L = some f := by
  induction L with
  | nil => simp at h1
  | cons g r ih =>
    have hr := List.pairwise_cons.1 hs
    simp only [findL]
    rcases List.mem_cons.1 h1 with rfl | h1
    · simp [h2]
    · have : (g.1 == s) = false := by
        have := lne (hr.1 f h1); rw [h2] at this; simpa using this
      rw [this]; exact ih hr.2 h1

theorem findL_no {s : List UInt8} {L : List FR} (h : ∀ f ∈ L, f.1 ≠ s) : findL s L = none := by
  cases hf : findL s L with
  | none => rfl
  | some f => obtain ⟨h1, h2⟩ := findL_some hf; exact absurd h2 (h f h1)

theorem dropL_none {s : List UInt8} {L : List FR} (h : findL s L = none) : dropL s L = L := by
  rw [dropL_eq, List.filter_eq_self]
  intro f hf
  simpa using findL_none h f hf

theorem dropL_perm {s : List UInt8} {L : List FR} (hs : SortL L) {f : FR} (h : findL s L = some f) : L.Perm (f :: dropL s L) := by
  induction L with
  | nil => simp [findL] at h
  | cons g r ih =>
    have hr := List.pairwise_cons.1 hs
    simp only [findL] at h
    cases hg : (g.1 == s)
    · rw [hg] at h
      simp only [dropL, hg, cond_false, List.singleton_append]
      exact (List.Perm.cons g (ih hr.2 h)).trans (List.Perm.swap f g _)
    · rw [hg] at h; simp only [cond_true, Option.some.injEq] at h; subst h
      simp only [dropL, hg, cond_true, List.nil_append]
      have : dropL s r = r := by
        rw [dropL_eq, List.filter_eq_self]
        intro x hx
        have h1 := lne (hr.1 x hx)
        have h2 : g.1 = s := by simpa using hg
        rw [h2] at h1
        simpa using fun e => h1 e.symm
      rw [this]

theorem findL_set {f : FR} {L : List FR} (hs : SortL L) (s : List UInt8) : findL s (setL f false L) = if f.1 = s then some f else findL s L := by
  by_cases h : f.1 = s
  · rw [if_pos h]
    exact findL_of hs.set (mem_setL.2 (.inl rfl)) h
  · rw [if_neg h]
    cases hf : findL s L with
    | none => exact findL_no (fun g hg => by
        rcases mem_setL.1 hg with rfl | ⟨hg, _⟩
        · exact h
        · exact findL_none hf g hg)
    | some g =>
      obtain ⟨h1, h2⟩ := findL_some hf
      exact findL_of hs.set (mem_setL.2 (.inr ⟨h1, fun e => h (e.symm.trans h2)⟩)) h2

theorem findL_drop {t : List UInt8} {L : List FR} (hs : SortL L) (s : List UInt8) : findL s (dropL t L) = if t = s then none else findL s L := by
  by_cases h : t = s
  · rw [if_pos h]; subst h
    exact findL_no (fun g hg => (mem_dropL.1 hg).2)
  · rw [if_neg h]
    cases hf : findL s L with
    | none => exact findL_no (fun g hg => findL_none hf g (mem_dropL.1 hg).1)
    | some g =>
      obtain ⟨h1, h2⟩ := findL_some hf
      exact findL_of (hs.drop t) (mem_dropL.2 ⟨h1, fun e => h (e.symm.trans h2)⟩) h2

/-! ### What is kept in a crash -/
def keepN (keep : List Int) (n : Nat) : Nat := match keep with
  | [] => 0
  | x :: _ => (if 0 < x then Int.tmod x (n + 1) else 0).toNat

def crashL : List FR → List Int → List FR
  | [], _ => []
  | f :: r, keep => cond f.2.2.1.isEmpty ((f.1, f.2.1, [], ()) :: crashL r keep) ((f.1, f.2.1 ++ f.2.2.1.take (keepN keep f.2.2.1.length), [], ()) :: crashL r keep.tail)

theorem keepN_le (keep : List Int) (n : Nat) : keepN keep n ≤ n := by
  cases keep with
  | nil => simp [keepN]
  | cons x r =>
    simp only [keepN]
    split
    · have := Int.tmod_lt_of_pos x (b := (n : Int) + 1) (by omega)
      omega
    · simp

/-! ### Calls -/
def putA (A : AD) (L : List FR) : AD := (A.1, L, A.2.2.1, A.2.2.2.1, ())
def goesA (A : AD) : Bool × AD := if A.2.2.1 = 0 then (false, A) else (A.2.2.1 == 1, (A.1, A.2.1, A.2.2.1 - 1, A.2.2.1 == 1, ()))
def writeA (A : AD) (k : AD → AD) : Int × AD := if (goesA A).1 = true then (11, (goesA A).2) else (0, k (goesA A).2)
def emptyF (s : List UInt8) : FR := (s, [], [], ())
def moreF (f : FR) (b : List UInt8) : FR := (f.1, f.2.1, f.2.2.1 ++ b, ())
def safeF (s : List UInt8) (f : FR) : FR := (s, f.2.1 ++ f.2.2.1, [], ())
def cutF (s : List UInt8) (f : FR) (n : Nat) : FR := if n ≤ f.2.1.length then (s, f.2.1.take n, [], ()) else (s, f.2.1, f.2.2.1.take (n - f.2.1.length), ())
def nameF (s : List UInt8) (f : FR) : FR := (s, f.2.1, [], ())

abbrev full (A : AD) (s b : List UInt8) : Prop := ((findL s A.2.1).isNone = true ∧ 128 ≤ A.2.1.length) ∨ (65536 < b.length + fsize ((findL s A.2.1).getD (emptyF s))) ∨ A.1 < (b.length : Int) + usedL A.2.1

def appendA (A : AD) (s b : List UInt8) : Int × AD :=
  if A.2.2.2.1 = true then (11, A) else if okName s = false then (2, A) else
  if full A s b then (10, A) else
  writeA (putA A (setL (moreF ((findL s A.2.1).getD (emptyF s)) b) false A.2.1)) id

def someA (A : AD) (s : List UInt8) (k : FR → Int × AD) : Int × AD :=
  if A.2.2.2.1 = true then (11, A) else match findL s A.2.1 with
    | none => (8, A)
    | some f => k f

def syncA (A : AD) (s : List UInt8) : Int × AD := someA A s fun f => writeA A (fun B => putA B (setL (safeF s f) false B.2.1))
def truncA (A : AD) (s : List UInt8) (n : Int) : Int × AD := someA A s fun f => if n < 0 ∨ (fsize f : Int) < n then (3, A) else writeA A (fun B => putA B (setL (cutF s f n.toNat) false B.2.1))
def renameA (A : AD) (s t : List UInt8) : Int × AD :=
  if A.2.2.2.1 = true then (11, A) else if okName s = false then (2, A) else if okName t = false then (2, A) else
  someA A s fun f => if f.2.2.1 ≠ [] then (12, A) else writeA A (fun B => putA B (setL (nameF t f) false (dropL s B.2.1)))
def removeA (A : AD) (s : List UInt8) : Int × AD := someA A s fun _ => writeA A (fun B => putA B (dropL s B.2.1))
def armA (A : AD) (n : Int) : Int × AD := if A.2.2.2.1 = true then (11, A) else if n < 1 then (2, A) else (0, (A.1, A.2.1, n, A.2.2.2.1, ()))
def crashA (A : AD) (keep : List Int) : AD := (A.1, crashL A.2.1 keep, 0, false, ())
def readA (A : AD) (s : List UInt8) : List UInt8 × Int := if A.2.2.2.1 = true then ([], 11) else match findL s A.2.1 with
  | none => ([], 8)
  | some f => (f.2.1 ++ f.2.2.1, 0)
def safeA (A : AD) (s : List UInt8) : Int := match findL s A.2.1 with
  | none => 0
  | some f => (f.2.1.length : Int)
def doA (A : AD) (a : AT) : Int × AD :=
  if a.1 = 0 ∨ a.1 = 1 ∨ a.1 = 2 then appendA A a.2.1 a.2.2.1 else
  if a.1 = 3 then syncA A a.2.1 else
  if a.1 = 4 then truncA A a.2.1 a.2.2.2.2.1 else
  if a.1 = 5 then renameA A a.2.1 a.2.2.2.1 else
  if a.1 = 6 then removeA A a.2.1 else
  if a.1 = 7 then armA A a.2.2.2.2.1 else (0, crashA A a.2.2.2.2.2.1)

/-- What a disk is at any time. -/
structure OkA (A : AD) : Prop where
  sorted : SortL A.2.1
  files : A.2.1.length ≤ 128
  each : ∀ f ∈ A.2.1, fsize f ≤ 65536
  used : (usedL A.2.1 : Int) ≤ A.1
  room : A.1 ≤ 1048576
  armed : 0 ≤ A.2.2.1 ∧ A.2.2.1 < 9223372036854775808

/-- What comes in with a call. -/
structure OkT (a : AT) : Prop where
  name : a.2.1.length < 9223372036854775808
  to : a.2.2.2.1.length < 9223372036854775808
  n : -9223372036854775808 ≤ a.2.2.2.2.1 ∧ a.2.2.2.2.1 < 9223372036854775808

theorem OkA.goes {A : AD} (h : OkA A) : OkA (goesA A).2 := by
  unfold goesA
  split
  · exact h
  · obtain ⟨h1, h2, h3, h4, h5, h6⟩ := h
    exact ⟨h1, h2, h3, h4, h5, by have := h6; simp only; omega⟩

theorem goesA_L (A : AD) : (goesA A).2.2.1 = A.2.1 ∧ (goesA A).2.1 = A.1 := by
  unfold goesA; split <;> exact ⟨rfl, rfl⟩

theorem OkA.write {A : AD} (h : OkA A) {k : AD → AD} (hk : ∀ B, OkA B → B.2.1 = A.2.1 → B.1 = A.1 → OkA (k B)) : OkA (writeA A k).2 := by
  unfold writeA
  split
  · exact h.goes
  · exact hk _ h.goes (goesA_L A).1 (goesA_L A).2

theorem usedL_drop_le (s : List UInt8) (L : List FR) : usedL (dropL s L) ≤ usedL L := by
  induction L with
  | nil => exact Nat.le_refl _
  | cons f r ih =>
    simp only [dropL]
    cases (f.1 == s)
    · simp only [cond_false, List.singleton_append, usedL]; omega
    · simp only [cond_true, List.nil_append, usedL]; omega

theorem dropL_len_le (s : List UInt8) (L : List FR) : (dropL s L).length ≤ L.length := by
  rw [dropL_eq]; exact List.length_filter_le _ _

theorem setL_len (f : FR) (L : List FR) : (setL f false L).length = (dropL f.1 L).length + 1 := by
  rw [(setL_perm f L).length_eq]; rfl

theorem setL_used (f : FR) (L : List FR) : usedL (setL f false L) = fsize f + usedL (dropL f.1 L) := by
  rw [usedL_perm (setL_perm f L)]; rfl

/-- A file that is no greater than the one that it replaces. -/
theorem OkA.put {A : AD} (h : OkA A) {g f : FR} {s : List UInt8} (hf : findL s A.2.1 = some f) (hg : g.1 = s) (hle : fsize g ≤ fsize f) : OkA (putA A (setL g false A.2.1)) := by
  obtain ⟨h1, h2, h3, h4, h5, h6⟩ := h
  have hp := dropL_perm h1 hf
  have hl := hp.length_eq
  have hu := usedL_perm hp
  simp only [List.length_cons, usedL] at hl hu
  refine ⟨h1.set, ?_, ?_, ?_, h5, h6⟩
  · simp only [putA, setL_len, hg]; omega
  · intro x hx
    rcases mem_setL.1 hx with rfl | ⟨hx, _⟩
    · exact Nat.le_trans hle (h3 f (findL_some hf).1)
    · exact h3 x hx
  · simp only [putA, setL_used, hg]; omega

theorem OkA.dropped {A : AD} (h : OkA A) (s : List UInt8) : OkA (putA A (dropL s A.2.1)) := by
  obtain ⟨h1, h2, h3, h4, h5, h6⟩ := h
  have hl := dropL_len_le s A.2.1
  have hu := usedL_drop_le s A.2.1
  refine ⟨h1.drop s, ?_, ?_, ?_, h5, h6⟩
  · simp only [putA]; omega
  · intro x hx; exact h3 x (mem_dropL.1 hx).1
  · simp only [putA]; omega

theorem fsize_cut {s : List UInt8} {f : FR} {n : Nat} (h : n ≤ fsize f) : fsize (cutF s f n) = n := by
  unfold cutF fsize at *
  split <;> simp <;> omega

theorem crashL_len : ∀ (L : List FR) (keep : List Int), (crashL L keep).length = L.length
  | [], _ => rfl
  | f :: r, keep => by
    unfold crashL
    cases f.2.2.1.isEmpty
    · simp [crashL_len r]
    · simp [crashL_len r]

theorem crashL_names : ∀ (L : List FR) (keep : List Int), (crashL L keep).map (·.1) = L.map (·.1)
  | [], _ => rfl
  | f :: r, keep => by
    unfold crashL
    cases f.2.2.1.isEmpty
    · simp [crashL_names r]
    · simp [crashL_names r]

theorem crashL_used : ∀ (L : List FR) (keep : List Int), usedL (crashL L keep) ≤ usedL L
  | [], _ => Nat.le_refl _
  | f :: r, keep => by
    unfold crashL
    have h1 := crashL_used r keep
    have h2 := crashL_used r keep.tail
    cases f.2.2.1.isEmpty
    · simp only [cond_false, usedL, fsize, List.length_append, List.length_take, List.length_nil]; omega
    · simp only [cond_true, usedL, fsize, List.length_nil]; omega

theorem crashL_each {m : Nat} : ∀ (L : List FR) (keep : List Int), (∀ f ∈ L, fsize f ≤ m) → ∀ f ∈ crashL L keep, fsize f ≤ m
  | [], _, _ => by simp [crashL]
  | f :: r, keep, h => by
    have hf := h f List.mem_cons_self
    have h1 := crashL_each r keep (fun x hx => h x (List.mem_cons_of_mem _ hx))
    have h2 := crashL_each r keep.tail (fun x hx => h x (List.mem_cons_of_mem _ hx))
    unfold crashL
    unfold fsize at hf
    intro x hx
    cases hb : f.2.2.1.isEmpty
    · rw [hb] at hx
      simp only [cond_false, List.mem_cons] at hx
      rcases hx with rfl | hx
      · simp only [fsize, List.length_append, List.length_take, List.length_nil]; omega
      · exact h2 x hx
    · rw [hb] at hx
      simp only [cond_true, List.mem_cons] at hx
      rcases hx with rfl | hx
      · simp only [fsize, List.length_nil]; omega
      · exact h1 x hx

theorem SortL_names {L L' : List FR} (h : L.map (·.1) = L'.map (·.1)) (hs : SortL L) : SortL L' := by
  have h1 : (L.map (·.1)).Pairwise (· < ·) := List.pairwise_map.2 hs
  rw [h] at h1
  exact List.pairwise_map.1 h1

theorem OkA.crash {A : AD} (h : OkA A) (keep : List Int) : OkA (crashA A keep) := by
  obtain ⟨h1, h2, h3, h4, h5, h6⟩ := h
  have hl := crashL_len A.2.1 keep
  have hu := crashL_used A.2.1 keep
  refine ⟨SortL_names (crashL_names A.2.1 keep).symm h1, ?_, crashL_each _ _ h3, ?_, h5, ?_⟩
  · simp only [crashA]; omega
  · simp only [crashA]; omega
  · simp only [crashA]; omega

theorem OkA.appended {A : AD} (h : OkA A) {s b : List UInt8} (hc : ¬ full A s b) : OkA (putA A (setL (moreF ((findL s A.2.1).getD (emptyF s)) b) false A.2.1)) := by
  obtain ⟨h1, h2, h3, h4, h5, h6⟩ := h
  simp only [full, not_or, not_and, Nat.not_le, Nat.not_lt, Int.not_lt] at hc
  obtain ⟨c1, c2, c3⟩ := hc
  cases hf : findL s A.2.1 with
  | none =>
    rw [hf] at c1 c2
    have c1 := c1 rfl
    have hd := dropL_none hf
    have e1 : (moreF ((none : Option FR).getD (emptyF s)) b).1 = s := rfl
    refine ⟨h1.set, ?_, ?_, ?_, h5, h6⟩
    · simp only [putA, setL_len, e1, hd]; omega
    · intro x hx
      rcases mem_setL.1 hx with rfl | ⟨hx, _⟩
      · simp only [Option.getD_none, fsize, emptyF, moreF, List.length_append, List.length_nil] at c2 ⊢; omega
      · exact h3 x hx
    · simp only [putA, setL_used, e1, hd]
      simp only [Option.getD_none, fsize, emptyF, moreF, List.length_append, List.length_nil] at c2 ⊢; omega
  | some f =>
    rw [hf] at c1 c2
    have hn := (findL_some hf).2
    have hp := dropL_perm h1 hf
    have hl := hp.length_eq
    have hu := usedL_perm hp
    simp only [List.length_cons, usedL] at hl hu
    have e1 : (moreF ((some f).getD (emptyF s)) b).1 = s := hn
    refine ⟨h1.set, ?_, ?_, ?_, h5, h6⟩
    · simp only [putA, setL_len, e1]; omega
    · intro x hx
      rcases mem_setL.1 hx with rfl | ⟨hx, _⟩
      · simp only [Option.getD_some, fsize, moreF, List.length_append] at c2 ⊢; omega
      · exact h3 x hx
    · simp only [putA, setL_used, e1]
      simp only [Option.getD_some, fsize, moreF, List.length_append] at c2 hu ⊢; omega

theorem OkA.append {A : AD} (h : OkA A) (s b : List UInt8) : OkA (appendA A s b).2 := by
  unfold appendA
  split
  · exact h
  split
  · exact h
  split
  · exact h
  rename_i hc
  exact (h.appended hc).write (fun B hB _ _ => hB)

theorem OkA.some {A : AD} (h : OkA A) {s : List UInt8} {k : FR → Int × AD} (hk : ∀ f, findL s A.2.1 = .some f → OkA (k f).2) : OkA (someA A s k).2 := by
  unfold someA
  split
  · exact h
  split
  · exact h
  · rename_i f hf; exact hk f hf

theorem OkA.do {A : AD} (h : OkA A) {a : AT} (ha : OkT a) : OkA (doA A a).2 := by
  unfold doA
  split
  · exact h.append _ _
  split
  · refine h.some (fun f hf => h.write (fun B hB hL _ => ?_))
    refine hB.put (f := f) (s := a.2.1) (by rw [hL]; exact hf) rfl ?_
    simp [fsize, safeF]
  split
  · refine h.some (fun f hf => ?_)
    split
    · exact h
    · rename_i hc
      simp only [not_or, Int.not_lt] at hc
      refine h.write (fun B hB hL _ => ?_)
      refine hB.put (f := f) (s := a.2.1) (by rw [hL]; exact hf) (by unfold cutF; split <;> rfl) ?_
      rw [fsize_cut (by omega)]; omega
  split
  · unfold renameA
    split
    · exact h
    split
    · exact h
    split
    · exact h
    refine h.some (fun f hf => ?_)
    split
    · exact h
    rename_i hm
    simp only [ne_eq, Decidable.not_not] at hm
    refine h.write (fun B hB hL _ => ?_)
    rw [← hL] at hf
    have hp := dropL_perm hB.sorted hf
    have hl := hp.length_eq
    have hu := usedL_perm hp
    simp only [List.length_cons, usedL, fsize] at hl hu
    have hd := hB.dropped a.2.1
    have hl2 := dropL_len_le (nameF a.2.2.2.1 f).1 (dropL a.2.1 B.2.1)
    have hu2 := usedL_drop_le (nameF a.2.2.2.1 f).1 (dropL a.2.1 B.2.1)
    have hx1 := hB.files
    have hx2 := hB.used
    refine ⟨hd.sorted.set, ?_, ?_, ?_, hB.room, hB.armed⟩
    · simp only [putA, setL_len]; omega
    · intro x hx
      rcases mem_setL.1 hx with rfl | ⟨hx, _⟩
      · have := hB.each f (findL_some hf).1
        simp only [fsize, nameF, List.length_nil] at this ⊢; omega
      · exact hd.each x hx
    · have e : fsize (nameF a.2.2.2.1 f) ≤ f.2.1.length := by simp [fsize, nameF]
      simp only [putA, setL_used]; omega
  split
  · refine h.some (fun f hf => h.write (fun B hB hL _ => hB.dropped _))
  split
  · unfold armA
    split
    · exact h
    split
    · exact h
    · obtain ⟨h1, h2, h3, h4, h5, h6⟩ := h
      have := ha.n
      exact ⟨h1, h2, h3, h4, h5, by simp only; omega⟩
  · exact h.crash _
theorem used_id {A : AD} (hA : OkA A) : IntKind.wrap .i64 (A.1 - ((usedL A.2.1 : Nat) : Int)) = A.1 - ((usedL A.2.1 : Nat) : Int) := by
  have h1 := hA.used; have h2 := hA.room
  rw [wrap_id (by omega) (by omega)]

end Go.Proofs.Ytlfemhkabjafeaa.M

/- Plain law, part 5: how a disk lies in the tables, and what changes there make of it. -/
set_option linter.unusedVariables false
set_option linter.unusedSimpArgs false
namespace Go.Proofs.Ytlfemhkabjafeaa.M

/-- An entry of a disk's map. -/
abbrev ME : Type := List UInt8 × Option Nat

/-! ### A map's entries -/
section
variable {m : List ME} {s : List UInt8}

def Keys (m : List ME) : Prop := (m.map (·.1)).Nodup

theorem mapGet_cons (q : ME) (r : List ME) : mapGet .str (.ptr 108) s (q :: r) = cond (s == q.1) (some q.2) (mapGet .str (.ptr 108) s r) := by
  obtain ⟨k, v⟩ := q
  simp only [mapGet, keyEq]
  cases (s == k) <;> rfl

theorem mapGet_mem (hk : Keys m) {v : Option Nat} (h : (s, v) ∈ m) : mapGet .str (.ptr 108) s m = some v := by
  induction m with
  | nil => simp at h
  | cons q r ih =>
    rw [mapGet_cons]
    unfold Keys at hk
    rw [List.map_cons, List.nodup_cons] at hk
    rcases List.mem_cons.1 h with rfl | h
    · simp
    · have : (s == q.1) = false := by
        have : s ≠ q.1 := fun e => hk.1 (by rw [← e]; exact List.mem_map.2 ⟨_, h, rfl⟩)
        simpa using this
      rw [this]; exact ih hk.2 h

theorem mapGet_no (h : ∀ q ∈ m, q.1 ≠ s) : mapGet .str (.ptr 108) s m = none := by
  induction m with
  | nil => rfl
  | cons q r ih =>
    rw [mapGet_cons]
    have : (s == q.1) = false := by
      have := h q List.mem_cons_self
      simpa using fun e => this e.symm
    rw [this]; exact ih (fun q hq => h q (List.mem_cons_of_mem _ hq))

def others (s : List UInt8) (m : List ME) : List ME := m.filter (fun q => !(q.1 == s))

theorem others_self (h : ∀ q ∈ m, q.1 ≠ s) : others s m = m := by
  unfold others; rw [List.filter_eq_self]; intro q hq; simpa using h q hq

theorem mapSet_perm (hk : Keys m) (v : Option Nat) : (mapSet .str (.ptr 108) s v m).Perm ((s, v) :: others s m) := by
  induction m with
  | nil => exact List.Perm.refl _
  | cons q r ih =>
    obtain ⟨k, u⟩ := q
    unfold Keys at hk
    rw [List.map_cons, List.nodup_cons] at hk
    simp only [mapSet, keyEq]
    cases hs : (s == k) with
    | true =>
      have he : s = k := by simpa using hs
      subst he
      have : others s ((s, u) :: r) = r := by
        unfold others
        rw [List.filter_cons_of_neg (by simp)]
        exact others_self (fun q hq e => hk.1 (by rw [← e]; exact List.mem_map.2 ⟨q, hq, rfl⟩))
      rw [this]
    | false =>
      have : others s ((k, u) :: r) = (k, u) :: others s r := by
        unfold others
        rw [List.filter_cons_of_pos]
        have : s ≠ k := by simpa using hs
        simpa using fun e => this e.symm
      rw [this]
      exact (List.Perm.cons _ (ih hk.2)).trans (List.Perm.swap _ _ _)

theorem mapDel_eq (hk : Keys m) : mapDel .str (.ptr 108) s m = others s m := by
  induction m with
  | nil => rfl
  | cons q r ih =>
    obtain ⟨k, u⟩ := q
    unfold Keys at hk
    rw [List.map_cons, List.nodup_cons] at hk
    simp only [mapDel, keyEq]
    cases hs : (s == k) with
    | true =>
      have he : s = k := by simpa using hs
      subst he
      have : others s ((s, u) :: r) = r := by
        unfold others
        rw [List.filter_cons_of_neg (by simp)]
        exact others_self (fun q hq e => hk.1 (by rw [← e]; exact List.mem_map.2 ⟨q, hq, rfl⟩))
      rw [this]
    | false =>
      have : others s ((k, u) :: r) = (k, u) :: others s r := by
        unfold others
        rw [List.filter_cons_of_pos]
        have : s ≠ k := by simpa using hs
        simpa using fun e => this e.symm
      rw [this, ih hk.2]
end

/-! ### A disk in the tables -/
/-- A file, as it lies in the table of files. -/
def cont (f : FR) : denFs fs108 := (f.2.1 ++ f.2.2.1, (f.2.1.length : Int), ())
def entry (q : FR × Nat) : ME := (q.1.1, some q.2)
def rest (s : List UInt8) (qs : List (FR × Nat)) : List (FR × Nat) := qs.filter (fun q => !(q.1.1 == s))

structure DVq (σ : St) (d n0 : Nat) (A : AD) (o : denFs fs105) (qs : List (FR × Nat)) : Prop where
  ho : σ.t105[d]? = some o
  room : o.1 = A.1
  armed : o.2.2.1 = A.2.2.1
  down : o.2.2.2.1 = A.2.2.2.1
  map : o.2.1.Perm (qs.map entry)
  files : (qs.map (·.1)).Perm A.2.1
  nodup : (qs.map (·.2)).Nodup
  lie : ∀ q ∈ qs, σ.t108[q.2]? = some (cont q.1) ∧ n0 ≤ q.2
  base : n0 ≤ σ.t108.length

/-- The disk at a place lies there as this plain one. -/
def DV (σ : St) (d n0 : Nat) (A : AD) : Prop := ∃ o qs, DVq σ d n0 A o qs

/-- The tables that no disk turns. -/
def oth3 (σ : St) := (σ.t116, σ.t128, σ.t130)

/-- What a call on a disk leaves as it was. -/
structure Fr (σ σ' : St) (d n0 : Nat) : Prop where
  oth : oth3 σ' = oth3 σ
  t47 : σ'.t47 = σ.t47
  t105 : ∀ i, i ≠ d → i < σ.t105.length → σ'.t105[i]? = σ.t105[i]?
  l105 : σ.t105.length ≤ σ'.t105.length
  t108 : ∀ j, j < n0 → σ'.t108[j]? = σ.t108[j]?
  l108 : σ.t108.length ≤ σ'.t108.length

theorem Fr.refl (σ : St) (d n0 : Nat) : Fr σ σ d n0 := ⟨rfl, rfl, fun _ _ _ => rfl, Nat.le_refl _, fun _ _ => rfl, Nat.le_refl _⟩
theorem Fr.trans {σ σ' σ'' : St} {d n0 : Nat} (h1 : Fr σ σ' d n0) (h2 : Fr σ' σ'' d n0) : Fr σ σ'' d n0 :=
  ⟨h2.oth.trans h1.oth, h2.t47.trans h1.t47, fun i hi hl => (h2.t105 i hi (Nat.lt_of_lt_of_le hl h1.l105)).trans (h1.t105 i hi hl), Nat.le_trans h1.l105 h2.l105, fun j hj => (h2.t108 j hj).trans (h1.t108 j hj), Nat.le_trans h1.l108 h2.l108⟩

section
variable {σ : St} {d n0 : Nat} {A : AD} {o : denFs fs105} {qs : List (FR × Nat)}

theorem DVq.same (h : DVq σ d n0 A o qs) {σ' : St} (h1 : σ'.t105 = σ.t105) (h2 : σ'.t108 = σ.t108) : DVq σ' d n0 A o qs := by
  obtain ⟨a1, a2, a3, a4, a5, a6, a7, a8, a9⟩ := h
  exact ⟨by rw [h1]; exact a1, a2, a3, a4, a5, a6, a7, by rw [h2]; exact a8, by rw [h2]; exact a9⟩

theorem DVq.names (h : DVq σ d n0 A o qs) (hs : SortL A.2.1) : (qs.map (fun q => q.1.1)).Nodup := by
  have h1 : (A.2.1.map (·.1)).Nodup := by
    have : (A.2.1.map (·.1)).Pairwise (· < ·) := List.pairwise_map.2 hs
    exact this.imp (fun h => lne h)
  have h2 := (h.files.map (·.1)).nodup_iff.2 h1
  rw [List.map_map] at h2
  exact h2

theorem DVq.keys (h : DVq σ d n0 A o qs) (hs : SortL A.2.1) : Keys o.2.1 := by
  unfold Keys
  refine (h.map.map (·.1)).nodup_iff.2 ?_
  rw [List.map_map]
  exact h.names hs

theorem DVq.len (h : DVq σ d n0 A o qs) : o.2.1.length = A.2.1.length := by
  have h1 := h.map.length_eq
  have h2 := h.files.length_eq
  simp only [List.length_map] at h1 h2
  omega

theorem DVq.look (h : DVq σ d n0 A o qs) (hs : SortL A.2.1) (s : List UInt8) :
    (findL s A.2.1 = none ∧ mapGet .str (.ptr 108) s o.2.1 = none ∧ ∀ q ∈ qs, q.1.1 ≠ s) ∨ ∃ f j, findL s A.2.1 = some f ∧ mapGet .str (.ptr 108) s o.2.1 = some (some j) ∧ (f, j) ∈ qs ∧ f.1 = s ∧ σ.t108[j]? = some (cont f) := by
  cases hf : findL s A.2.1 with
  | none =>
    have hq : ∀ q ∈ qs, q.1.1 ≠ s := fun q hq => findL_none hf q.1 (h.files.mem_iff.1 (List.mem_map.2 ⟨q, hq, rfl⟩))
    refine .inl ⟨rfl, mapGet_no (fun q hq2 => ?_), hq⟩
    obtain ⟨p, hp, rfl⟩ := List.mem_map.1 (h.map.mem_iff.1 hq2)
    exact hq p hp
  | some f =>
    obtain ⟨h1, h2⟩ := findL_some hf
    obtain ⟨q, hq, rfl⟩ := List.mem_map.1 (h.files.mem_iff.2 h1)
    refine .inr ⟨q.1, q.2, rfl, mapGet_mem (h.keys hs) ?_, hq, h2, (h.lie q hq).1⟩
    refine h.map.mem_iff.2 (List.mem_map.2 ⟨q, hq, ?_⟩)
    unfold entry; rw [h2]

theorem rest_none {s : List UInt8} (h : ∀ q ∈ qs, q.1.1 ≠ s) : rest s qs = qs := by
  unfold rest; rw [List.filter_eq_self]; intro q hq; simpa using h q hq

theorem rest_perm {f : FR} {j : Nat} (hn : (qs.map (fun q => q.1.1)).Nodup) (hq : (f, j) ∈ qs) : qs.Perm ((f, j) :: rest f.1 qs) := by
  induction qs with
  | nil => simp at hq
  | cons p r ih =>
    rw [List.map_cons, List.nodup_cons] at hn
    rcases List.mem_cons.1 hq with rfl | hq
    · have : rest f.1 ((f, j) :: r) = r := by
        unfold rest
        rw [List.filter_cons_of_neg (by simp)]
        exact rest_none (fun q hq e => hn.1 (by rw [← e]; exact List.mem_map.2 ⟨q, hq, rfl⟩))
      rw [this]
    · have : rest f.1 (p :: r) = p :: rest f.1 r := by
        unfold rest
        rw [List.filter_cons_of_pos]
        have : p.1.1 ≠ f.1 := fun e => hn.1 (by rw [e]; exact List.mem_map.2 ⟨(f, j), hq, rfl⟩)
        simpa using this
      rw [this]
      exact (List.Perm.cons _ (ih hn.2 hq)).trans (List.Perm.swap _ _ _)

theorem rest_map (s : List UInt8) : (rest s qs).map entry = others s (qs.map entry) := by
  unfold rest others
  rw [List.filter_map]
  rfl

theorem rest_fst (s : List UInt8) : (rest s qs).map (·.1) = dropL s (qs.map (·.1)) := by
  unfold rest
  rw [dropL_eq, List.filter_map]
  rfl

theorem dropL_congr {s : List UInt8} {L L' : List FR} (h : L.Perm L') : (dropL s L).Perm (dropL s L') := by
  rw [dropL_eq, dropL_eq]; exact h.filter _

theorem mem_rest {s : List UInt8} {q : FR × Nat} : q ∈ rest s qs ↔ q ∈ qs ∧ q.1.1 ≠ s := by
  unfold rest; rw [List.mem_filter]; simp

theorem DVq.perm (h : DVq σ d n0 A o qs) {L : List FR} (hL : A.2.1.Perm L) : DVq σ d n0 (putA A L) o qs := by
  obtain ⟨a1, a2, a3, a4, a5, a6, a7, a8, a9⟩ := h
  exact ⟨a1, a2, a3, a4, a5, a6.trans hL, a7, a8, a9⟩

theorem cons_set {g : FR} {L L' : List FR} (h : L.Perm (dropL g.1 L')) : (g :: L).Perm (setL g false L') :=
  (List.Perm.cons g h).trans (setL_perm g L').symm

/-- Other bytes in a file. -/
theorem DVq.upd (h : DVq σ d n0 A o qs) (hs : SortL A.2.1) {f g : FR} {j : Nat} (hq : (f, j) ∈ qs) (hg : g.1 = f.1) :
    DVq (σ.set108 j (cont g)) d n0 (putA A (setL g false A.2.1)) o ((g, j) :: rest f.1 qs) := by
  have hp := rest_perm (h.names hs) hq
  have hj := (h.lie _ hq).1
  have hnd : (j :: (rest f.1 qs).map (fun q => q.2)).Nodup := (hp.map (fun q : FR × Nat => q.2)).nodup_iff.1 h.nodup
  refine ⟨h.ho, h.room, h.armed, h.down, ?_, ?_, hnd, ?_, ?_⟩
  · refine h.map.trans ((hp.map entry).trans ?_)
    rw [List.map_cons, List.map_cons]
    have : entry (g, j) = entry (f, j) := by unfold entry; rw [hg]
    rw [this]
  · rw [List.map_cons, rest_fst, ← hg]
    exact cons_set (dropL_congr h.files)
  · intro q hq2
    rcases List.mem_cons.1 hq2 with rfl | hq2
    · exact ⟨set108_get hj, (h.lie _ hq).2⟩
    · have hne : j ≠ q.2 := fun e => (List.nodup_cons.1 hnd).1 (by rw [e]; exact List.mem_map.2 ⟨q, hq2, rfl⟩)
      obtain ⟨e1, e2⟩ := h.lie q (mem_rest.1 hq2).1
      refine ⟨?_, e2⟩
      simp only [St.set108]
      rw [List.getElem?_set_ne hne]; exact e1
  · simpa [St.set108] using h.base

theorem frame108 {j : Nat} {x : denFs fs108} (hj : n0 ≤ j) : Fr σ (σ.set108 j x) d n0 := by
  refine ⟨rfl, rfl, fun _ _ _ => rfl, Nat.le_refl _, fun i hi => ?_, by simp [St.set108]⟩
  simp only [St.set108]
  rw [List.getElem?_set_ne (by omega)]

theorem frame105 {x : denFs fs105} : Fr σ (σ.set105 d x) d n0 := by
  refine ⟨rfl, rfl, fun i hi _ => ?_, by simp [St.set105], fun _ _ => rfl, Nat.le_refl _⟩
  simp only [St.set105]
  rw [List.getElem?_set_ne (Ne.symm hi)]

theorem frame_add108 {x : denFs fs108} (hb : n0 ≤ σ.t108.length) : Fr σ (σ.add108 x) d n0 := by
  refine ⟨rfl, rfl, fun _ _ _ => rfl, Nat.le_refl _, fun j hj => ?_, by simp [St.add108]⟩
  simp only [St.add108]
  rw [List.getElem?_append_left (by omega)]

/-- Another file at a name. -/
theorem DVq.link (h : DVq σ d n0 A o qs) (hs : SortL A.2.1) {g : FR} {j : Nat} (hj : j ∉ qs.map (·.2)) (hc : σ.t108[j]? = some (cont g)) (hb : n0 ≤ j) :
    DVq (σ.set105 d (o.1, mapSet .str (.ptr 108) g.1 (some j) o.2.1, o.2.2.1, o.2.2.2.1, ())) d n0 (putA A (setL g false A.2.1)) (o.1, mapSet .str (.ptr 108) g.1 (some j) o.2.1, o.2.2.1, o.2.2.2.1, ()) ((g, j) :: rest g.1 qs) := by
  refine ⟨set105_get h.ho, h.room, h.armed, h.down, ?_, ?_, ?_, ?_, h.base⟩
  · refine (mapSet_perm (h.keys hs) (some j)).trans ?_
    rw [List.map_cons, rest_map]
    exact List.Perm.cons _ (h.map.filter _)
  · rw [List.map_cons, rest_fst]
    exact cons_set (dropL_congr h.files)
  · rw [List.map_cons, List.nodup_cons]
    refine ⟨fun hm => hj ?_, (List.filter_sublist.map _).nodup h.nodup⟩
    obtain ⟨q, hq, e⟩ := List.mem_map.1 hm
    exact List.mem_map.2 ⟨q, (mem_rest.1 hq).1, e⟩
  · intro q hq
    rcases List.mem_cons.1 hq with rfl | hq
    · exact ⟨hc, hb⟩
    · exact h.lie q (mem_rest.1 hq).1

/-- A name taken away. -/
theorem DVq.unlink (h : DVq σ d n0 A o qs) (hs : SortL A.2.1) (s : List UInt8) :
    DVq (σ.set105 d (o.1, mapDel .str (.ptr 108) s o.2.1, o.2.2.1, o.2.2.2.1, ())) d n0 (putA A (dropL s A.2.1)) (o.1, mapDel .str (.ptr 108) s o.2.1, o.2.2.1, o.2.2.2.1, ()) (rest s qs) := by
  refine ⟨set105_get h.ho, h.room, h.armed, h.down, ?_, ?_, ?_, ?_, h.base⟩
  · show (mapDel .str (.ptr 108) s o.2.1).Perm _
    rw [mapDel_eq (h.keys hs), rest_map]
    exact h.map.filter _
  · rw [rest_fst]; exact dropL_congr h.files
  · exact (List.filter_sublist.map _).nodup h.nodup
  · intro q hq
    exact h.lie q (mem_rest.1 hq).1

theorem DVq.state (h : DVq σ d n0 A o qs) {a : Int} {b : Bool} : DVq (σ.set105 d (o.1, o.2.1, a, b, ())) d n0 (A.1, A.2.1, a, b, ()) (o.1, o.2.1, a, b, ()) qs :=
  ⟨set105_get h.ho, h.room, rfl, rfl, h.map, h.files, h.nodup, h.lie, h.base⟩

/-! ### What is read -/
theorem used_entries : ∀ {qs : List (FR × Nat)}, (∀ q ∈ qs, σ.t108[q.2]? = some (cont q.1)) → usedS (qs.map entry) σ = some (usedL (qs.map (·.1)))
  | [], _ => rfl
  | q :: r, h => by
    refine usedS_cons.2 ⟨q.2, cont q.1, usedL (r.map (·.1)), rfl, h q List.mem_cons_self, used_entries (fun p hp => h p (List.mem_cons_of_mem _ hp)), ?_⟩
    simp [usedL, fsize, cont]

theorem f20_eq (h : DVq σ d n0 A o qs) (hA : OkA A) : f20 (some d) σ = some ((usedL A.2.1 : Nat) : Int) := by
  unfold f20
  have h1 := used_entries (σ := σ) (qs := qs) (fun q hq => (h.lie q hq).1)
  have h2 := usedS_perm h.map.symm h1
  rw [usedL_perm h.files] at h2
  have h3 := hA.used; have h4 := hA.room
  simp [h.ho, h2]
  rw [wrap_id (by omega) (by omega)]

theorem sorted_eq {l l' : List (List UInt8)} (h : l.Perm l') (hs : l'.Pairwise (· < ·)) : sorted l = l' := by
  unfold sorted
  have hp := (List.mergeSort_perm l (fun x y => decide (x ≤ y))).trans h
  refine hp.eq_of_pairwise (le := fun x y => x ≤ y) ?_ ?_ ?_
  · intro a b _ _ h1 h2; exact List.le_antisymm h1 h2
  · have := List.pairwise_mergeSort (le := fun x y : List UInt8 => decide (x ≤ y)) (fun a b c h1 h2 => by simp only [decide_eq_true_eq] at *; exact List.le_trans h1 h2) (fun a b => by simp only [Bool.or_eq_true, decide_eq_true_eq]; exact List.le_total a b) l
    exact this.imp (fun h => by simpa using h)
  · exact hs.imp (fun h => List.le_of_lt h)

theorem f21_eq (h : DVq σ d n0 A o qs) (hA : OkA A) : f21 (some d) σ = some (A.2.1.map (·.1)) := by
  unfold f21
  have hl := h.len
  have hf := hA.files
  have hp : (o.2.1.map (·.1)).Perm (A.2.1.map (·.1)) := by
    refine (h.map.map (·.1)).trans ?_
    rw [List.map_map]
    have := h.files.map (·.1)
    rw [List.map_map] at this
    exact this
  have hs := sorted_eq hp (List.pairwise_map.2 hA.sorted)
  have hg : (o.2.1.length + 1) * 16 ≤ 140737488355328 := by omega
  simp [h.ho, hs, hg]

theorem f70_eq (h : DVq σ d n0 A o qs) : f70 (some d) σ = some (if A.2.2.2.1 = true then 11 else 0) := by
  unfold f70
  have := h.down
  simp only [h.ho, Option.isNone_some, Option.bind_eq_bind, Option.bind_some, this]
  rw [if_neg (by decide)]
  split <;> rfl

/-- Is it found? -/
theorem f77_cases (h : DVq σ d n0 A o qs) (hA : OkA A) (s : List UInt8) :
    (A.2.2.2.1 = true ∧ f77 (some d) s σ = some (none, 11)) ∨ (A.2.2.2.1 = false ∧ ((findL s A.2.1 = none ∧ f77 (some d) s σ = some (none, 8)) ∨ ∃ f j, findL s A.2.1 = some f ∧ (f, j) ∈ qs ∧ f.1 = s ∧ σ.t108[j]? = some (cont f) ∧ mapGet .str (.ptr 108) s o.2.1 = some (some j) ∧ f77 (some d) s σ = some (some j, 0))) := by
  unfold f77
  rw [f70_eq h]
  simp only [h.ho, Option.bind_eq_bind, Option.bind_some]
  cases hd : A.2.2.2.1 with
  | true => exact .inl ⟨rfl, by simp⟩
  | false =>
    refine .inr ⟨rfl, ?_⟩
    rcases h.look hA.sorted s with ⟨h1, h2, _⟩ | ⟨f, j, h1, h2, h3, h4, h5⟩
    · exact .inl ⟨h1, by simp [h2, zeroK]⟩
    · exact .inr ⟨f, j, h1, h3, h4, h5, h2, by simp [h2]⟩

theorem f28_eq (h : DVq σ d n0 A o qs) (hA : OkA A) (s : List UInt8) : f28 (some d) s σ = some (readA A s) := by
  unfold f28 readA
  rcases f77_cases h hA s with ⟨h1, h2⟩ | ⟨h1, ⟨h2, h3⟩ | ⟨f, j, h2, h3, h4, h5, _, h6⟩⟩
  · simp [h1, h2]
  · simp [h1, h2, h3]
  · simp [h1, h2, h6, h5, cont]

theorem f30_eq (h : DVq σ d n0 A o qs) (hA : OkA A) (s : List UInt8) : f30 (some d) s σ = some (safeA A s) := by
  unfold f30 safeA
  simp only [h.ho, Option.isNone_some, Option.bind_eq_bind, Option.bind_some]
  rw [if_neg (by decide)]
  rcases h.look hA.sorted s with ⟨h1, h2, _⟩ | ⟨f, j, h1, h2, h3, h4, h5⟩
  · simp [h1, h2, zeroK]
  · simp [h1, h2, h5, cont]

theorem f31_eq (h : DVq σ d n0 A o qs) : f31 (some d) σ = some A.2.2.2.1 := by
  unfold f31
  simp [h.ho, h.down]
end
end Go.Proofs.Ytlfemhkabjafeaa.M

/- Plain law, part 6: the calls of a disk. -/
set_option linter.unusedVariables false
set_option linter.unusedSimpArgs false
namespace Go.Proofs.Ytlfemhkabjafeaa.M

/-- All but the table of disks. -/
def Oth (σ σ1 : St) : Prop := σ1.t108 = σ.t108 ∧ σ1.t100106 = σ.t100106 ∧ σ1.t100003 = σ.t100003 ∧ σ1.t100009 = σ.t100009 ∧ σ1.t100024 = σ.t100024

section
variable {σ : St} {d n0 : Nat} {A : AD} {o : denFs fs105} {qs : List (FR × Nat)}

theorem set105_set {X Y : denFs fs105} : (σ.set105 d X).set105 d Y = σ.set105 d Y := by unfold St.set105; simp
theorem set108_set {j : Nat} {X Y : denFs fs108} : (σ.set108 j X).set108 j Y = σ.set108 j Y := by unfold St.set108; simp

theorem Fr.of {σ' : St} (h1 : σ'.t47 = σ.t47) (h2 : σ'.t105 = σ.t105) (h3 : σ'.t108 = σ.t108) (h4 : oth3 σ' = oth3 σ := by rfl) : Fr σ σ' d n0 :=
  ⟨h4, h1, fun i _ _ => by rw [h2], by rw [h2]; exact Nat.le_refl _, fun i _ => by rw [h3], by rw [h3]; exact Nat.le_refl _⟩

theorem DV.same {σ' : St} (h : DV σ d n0 A) (h1 : σ'.t105 = σ.t105) (h2 : σ'.t108 = σ.t108) : DV σ' d n0 A := by
  obtain ⟨o, qs, h⟩ := h
  exact ⟨o, qs, h.same h1 h2⟩

/-- What a call gives. -/
def Gives (r : Option (Int × St)) (σ : St) (d n0 : Nat) (p : Int × AD) : Prop := ∃ σ', r = some (p.1, σ') ∧ DV σ' d n0 p.2 ∧ Fr σ σ' d n0

theorem Gives.from {r : Option (Int × St)} {σ0 : St} {p : Int × AD} (h : Gives r σ d n0 p) (hf : Fr σ0 σ d n0) : Gives r σ0 d n0 p := by
  obtain ⟨σ', e1, e2, e3⟩ := h
  exact ⟨σ', e1, e2, hf.trans e3⟩

theorem f72_eq (h : DVq σ d n0 A o qs) (hA : OkA A) (hd : A.2.2.2.1 = false) {p1 : St → Option (Unit × St)} {k : AD → AD}
    (hp : ∀ σ1 o1, DVq σ1 d n0 (goesA A).2 o1 qs → o1.2.1 = o.2.1 → Oth σ σ1 → ∃ σ2, p1 σ1 = some ((), σ2) ∧ DV σ2 d n0 (k (goesA A).2) ∧ Fr σ1 σ2 d n0) :
    Gives (f72 (some d) p1 σ) σ d n0 (writeA A k) := by
  unfold f72 writeA
  simp only [h.ho, Option.bind_eq_bind, Option.bind_some, h.armed]
  by_cases h0 : A.2.2.1 = 0
  · have hg : goesA A = (false, A) := by unfold goesA; rw [if_pos h0]
    rw [hg] at hp ⊢
    obtain ⟨σ2, e1, e2, e3⟩ := hp σ o h rfl ⟨rfl, rfl, rfl, rfl, rfl⟩
    exact ⟨σ2, by simp [h0, e1], e2, e3⟩
  · have ha := hA.armed
    have hw : IntKind.wrap .i64 (A.2.2.1 - 1) = A.2.2.1 - 1 := wrap_id (by omega) (by omega)
    have hg : goesA A = (A.2.2.1 == 1, (A.1, A.2.1, A.2.2.1 - 1, A.2.2.1 == 1, ())) := by unfold goesA; rw [if_neg h0]
    have hpos : decide (A.2.2.1 > 0) = true := by simp; omega
    rw [hg] at hp ⊢
    simp only [hpos, if_true, hw, set105_get h.ho, Option.bind_some, set105_set]
    by_cases h1 : A.2.2.1 = 1
    · refine ⟨_, by simp [h1]; rfl, ?_, frame105⟩
      have := h.state (a := A.2.2.1 - 1) (b := true)
      rw [h1] at this ⊢
      exact ⟨_, _, this⟩
    · have e : ((A.2.2.1 - 1 == 0) : Bool) = false := by
        have : ¬ (A.2.2.1 - 1 = 0) := by omega
        simpa using this
      have e2 : ((A.2.2.1 == 1) : Bool) = false := by simpa using h1
      rw [e2] at hp
      have hq := h.state (a := A.2.2.1 - 1) (b := o.2.2.2.1)
      have hdn : o.2.2.2.1 = false := h.down.trans hd
      rw [hdn] at hq
      obtain ⟨σ2, e3, e4, e5⟩ := hp _ _ hq rfl ⟨rfl, rfl, rfl, rfl, rfl⟩
      refine ⟨σ2, ?_, ?_, frame105.trans e5⟩
      · rw [hdn]; simp [e, e2, e3]
      · simp only [e2]; exact e4

/-! ### Sync -/
theorem f33_eq (h : DV σ d n0 A) (hA : OkA A) (s : List UInt8) : Gives (f33 (some d) s σ) σ d n0 (syncA A s) := by
  obtain ⟨o, qs, h⟩ := h
  unfold f33 syncA someA
  rcases f77_cases h hA s with ⟨h1, h2⟩ | ⟨h1, ⟨h2, h3⟩ | ⟨f, j, h2, h3, h4, h5, _, h6⟩⟩
  · rw [h2, if_pos h1]
    exact ⟨(σ.add100106 (none, ())).set100106 σ.t100106.length (none, ()), by simp, ⟨o, qs, h.same rfl rfl⟩, Fr.of rfl rfl rfl⟩
  · rw [h3, if_neg (by rw [h1]; decide), h2]
    exact ⟨(σ.add100106 (none, ())).set100106 σ.t100106.length (none, ()), by simp, ⟨o, qs, h.same rfl rfl⟩, Fr.of rfl rfl rfl⟩
  · rw [h6, if_neg (by rw [h1]; decide), h2]
    simp only [Option.bind_eq_bind, Option.bind_some]
    rw [if_neg (by decide)]
    have hh : DVq ((σ.add100106 (none, ())).set100106 σ.t100106.length (some j, ())) d n0 A o qs := h.same rfl rfl
    have hc : ((σ.add100106 (none, ())).set100106 σ.t100106.length (some j, ())).t100106[σ.t100106.length]? = some (some j, ()) := set100106_get got100106
    refine Gives.from ?_ (Fr.of (σ' := (σ.add100106 (none, ())).set100106 σ.t100106.length (some j, ())) rfl rfl rfl)
    obtain ⟨σ', e1, e2, e3⟩ := f72_eq hh hA h1 (p1 := f78 σ.t100106.length) (k := fun B => putA B (setL (safeF s f) false B.2.1)) (by
      intro σ1 o1 q1 q2 q3
      have hj := (q1.lie _ h3).1
      have hc1 : σ1.t100106[σ.t100106.length]? = some (some j, ()) := by rw [q3.2.1]; exact hc
      refine ⟨σ1.set108 j (cont (safeF s f)), ?_, ⟨_, _, q1.upd hA.goes.sorted h3 h4.symm⟩, frame108 (q1.lie _ h3).2⟩
      unfold f78
      simp [hc1, hj, cont, safeF])
    exact ⟨σ', by rw [e1]; rfl, e2, e3⟩

/-! ### Truncate -/
theorem f35_eq (h : DV σ d n0 A) (hA : OkA A) (s : List UInt8) (n : Int) : Gives (f35 (some d) s n σ) σ d n0 (truncA A s n) := by
  obtain ⟨o, qs, h⟩ := h
  unfold f35 truncA someA
  have h' : DVq (σ.add100003 (n, ())) d n0 A o qs := h.same rfl rfl
  rcases f77_cases h' hA s with ⟨h1, h2⟩ | ⟨h1, ⟨h2, h3⟩ | ⟨f, j, h2, h3, h4, h5, _, h6⟩⟩
  · rw [h2, if_pos h1]
    exact ⟨((σ.add100003 (n, ())).add100106 (none, ())).set100106 (σ.add100003 (n, ())).t100106.length (none, ()), by simp, ⟨o, qs, h.same rfl rfl⟩, Fr.of rfl rfl rfl⟩
  · rw [h3, if_neg (by rw [h1]; decide), h2]
    exact ⟨((σ.add100003 (n, ())).add100106 (none, ())).set100106 (σ.add100003 (n, ())).t100106.length (none, ()), by simp, ⟨o, qs, h.same rfl rfl⟩, Fr.of rfl rfl rfl⟩
  · rw [h6, if_neg (by rw [h1]; decide), h2]
    simp only [Option.bind_eq_bind, Option.bind_some]
    rw [if_neg (by decide)]
    have hfs := hA.each f (findL_some h2).1
    by_cases c1 : n < 0
    · rw [if_pos (by simpa using c1), if_pos (.inl c1)]
      exact ⟨_, rfl, ⟨o, qs, h.same rfl rfl⟩, Fr.of rfl rfl rfl⟩
    rw [if_neg (by simpa using c1)]
    have hl : (((σ.add100003 (n, ())).add100106 (none, ())).set100106 ((σ.add100003 (n, ())).t100106.length) (some j, ())).t108[j]? = some (cont f) := h5
    rw [hl]
    simp only [Option.bind_some]
    have hcl : (cont f).1.length = fsize f := by simp [cont, fsize]
    by_cases c2 : (fsize f : Int) < n
    · rw [if_pos (by rw [hcl]; simpa using c2), if_pos (.inr c2)]
      exact ⟨_, rfl, ⟨o, qs, h.same rfl rfl⟩, Fr.of rfl rfl rfl⟩
    rw [if_neg (by rw [hcl]; simpa using c2), if_neg (by simp only [not_or]; exact ⟨c1, c2⟩)]
    have hh : DVq (((σ.add100003 (n, ())).add100106 (none, ())).set100106 ((σ.add100003 (n, ())).t100106.length) (some j, ())) d n0 A o qs := h.same rfl rfl
    have hc : (((σ.add100003 (n, ())).add100106 (none, ())).set100106 ((σ.add100003 (n, ())).t100106.length) (some j, ())).t100106[(σ.add100003 (n, ())).t100106.length]? = some (some j, ()) := set100106_get got100106
    have hc3 : (((σ.add100003 (n, ())).add100106 (none, ())).set100106 ((σ.add100003 (n, ())).t100106.length) (some j, ())).t100003[σ.t100003.length]? = some (n, ()) := by
      show (σ.add100003 (n, ())).t100003[σ.t100003.length]? = _
      exact got100003
    refine Gives.from ?_ (Fr.of (σ' := ((σ.add100003 (n, ())).add100106 (none, ())).set100106 ((σ.add100003 (n, ())).t100106.length) (some j, ())) rfl rfl rfl)
    obtain ⟨σ', e1, e2, e3⟩ := f72_eq hh hA h1 (p1 := f79 ((σ.add100003 (n, ())).t100106.length) σ.t100003.length) (k := fun B => putA B (setL (cutF s f n.toNat) false B.2.1)) (by
      intro σ1 o1 q1 q2 q3
      have hj := (q1.lie _ h3).1
      have hc1 : σ1.t100106[(σ.add100003 (n, ())).t100106.length]? = some (some j, ()) := by rw [q3.2.1]; exact hc
      have hc2 : σ1.t100003[σ.t100003.length]? = some (n, ()) := by rw [q3.2.2.1]; exact hc3
      have hn1 : (cutF s f n.toNat).1 = f.1 := by rw [h4]; unfold cutF; split <;> rfl
      refine ⟨σ1.set108 j (cont (cutF s f n.toNat)), ?_, ⟨_, _, q1.upd hA.goes.sorted h3 hn1⟩, frame108 (q1.lie _ h3).2⟩
      unfold f79
      have hg : (0 : Int) ≤ n ∧ n ≤ ((cont f).1.length : Int) := by rw [hcl]; omega
      simp only [hc1, hc2, hj, Option.bind_eq_bind, Option.bind_some, hg, and_self, if_true, set108_get hj, set108_set]
      have : ((f.2.1 ++ f.2.2.1).take n.toNat, (if n < (f.2.1.length : Int) then n else (f.2.1.length : Int)), ()) = cont (cutF s f n.toNat) := by
        unfold cutF cont
        by_cases c3 : n.toNat ≤ f.2.1.length
        · rw [if_pos c3]
          simp only [List.append_nil, List.length_take]
          rw [List.take_append_of_le_length c3]
          congr 2
          split <;> omega
        · rw [if_neg c3]
          simp only []
          rw [List.take_append, List.take_of_length_le (l := f.2.1) (by omega)]
          congr 2
          rw [if_neg (by omega)]
      exact congrArg (fun X => some ((), σ1.set108 j X)) this)
    exact ⟨σ', by rw [e1]; rfl, e2, e3⟩

/-! ### Remove -/
theorem f37_eq (h : DV σ d n0 A) (hA : OkA A) (s : List UInt8) : Gives (f37 (some d) s σ) σ d n0 (removeA A s) := by
  obtain ⟨o, qs, h⟩ := h
  unfold f37 removeA someA
  have hh : DVq ((σ.add100024 (some d, ())).add100009 (s, ())) d n0 A o qs := h.same rfl rfl
  refine Gives.from ?_ (Fr.of (σ' := (σ.add100024 (some d, ())).add100009 (s, ())) rfl rfl rfl)
  rcases f77_cases hh hA s with ⟨h1, h2⟩ | ⟨h1, ⟨h2, h3⟩ | ⟨f, j, h2, h3, h4, h5, _, h6⟩⟩
  · rw [h2, if_pos h1]
    exact ⟨_, by simp, ⟨o, qs, hh⟩, Fr.refl _ _ _⟩
  · rw [h3, if_neg (by rw [h1]; decide), h2]
    exact ⟨_, by simp, ⟨o, qs, hh⟩, Fr.refl _ _ _⟩
  · rw [h6, if_neg (by rw [h1]; decide), h2]
    simp only [Option.bind_eq_bind, Option.bind_some]
    rw [if_neg (by decide)]
    have hc1 : ((σ.add100024 (some d, ())).add100009 (s, ())).t100024[σ.t100024.length]? = some (some d, ()) := by
      show (σ.add100024 (some d, ())).t100024[σ.t100024.length]? = _
      exact got100024
    have hc2 : ((σ.add100024 (some d, ())).add100009 (s, ())).t100009[(σ.add100024 (some d, ())).t100009.length]? = some (s, ()) := got100009
    obtain ⟨σ', e1, e2, e3⟩ := f72_eq hh hA h1 (p1 := f81 σ.t100024.length ((σ.add100024 (some d, ())).t100009.length)) (k := fun B => putA B (dropL s B.2.1)) (by
      intro σ1 o1 q1 q2 q3
      refine ⟨_, ?_, ⟨_, _, q1.unlink hA.goes.sorted s⟩, frame105⟩
      unfold f81
      rw [q3.2.2.2.1, q3.2.2.2.2, hc1, hc2]
      simp [q1.ho])
    exact ⟨σ', by rw [e1]; rfl, e2, e3⟩

/-! ### Rename -/
theorem f36_eq (h : DV σ d n0 A) (hA : OkA A) (s t : List UInt8) (hs : s.length < 9223372036854775808) (ht : t.length < 9223372036854775808) : Gives (f36 (some d) s t σ) σ d n0 (renameA A s t) := by
  obtain ⟨o, qs, h⟩ := h
  unfold f36 renameA someA
  have hh : DVq (((σ.add100024 (some d, ())).add100009 (s, ())).add100009 (t, ())) d n0 A o qs := h.same rfl rfl
  refine Gives.from ?_ (Fr.of (σ' := ((σ.add100024 (some d, ())).add100009 (s, ())).add100009 (t, ())) rfl rfl rfl)
  have hc1 : (((σ.add100024 (some d, ())).add100009 (s, ())).add100009 (t, ())).t100024[σ.t100024.length]? = some (some d, ()) := by
    show (σ.add100024 (some d, ())).t100024[σ.t100024.length]? = _
    exact got100024
  have hc2 : (((σ.add100024 (some d, ())).add100009 (s, ())).add100009 (t, ())).t100009[(σ.add100024 (some d, ())).t100009.length]? = some (s, ()) := by
    simp [St.add100009, St.add100024]
  have hc3 : (((σ.add100024 (some d, ())).add100009 (s, ())).add100009 (t, ())).t100009[((σ.add100024 (some d, ())).add100009 (s, ())).t100009.length]? = some (t, ()) := got100009
  simp only [f70_eq hh, hc2, Option.bind_eq_bind, Option.bind_some, f71_eq s hs, f71_eq t ht]
  cases hd : A.2.2.2.1 with
  | true => exact ⟨_, by simp, ⟨o, qs, hh⟩, Fr.refl _ _ _⟩
  | false =>
    simp only [Bool.false_eq_true, if_false]
    rw [if_neg (by decide)]
    cases hn : okName s with
    | false => exact ⟨_, by simp, ⟨o, qs, hh⟩, Fr.refl _ _ _⟩
    | true =>
      cases hn2 : okName t with
      | false => exact ⟨_, by simp, ⟨o, qs, hh⟩, Fr.refl _ _ _⟩
      | true =>
        simp only [Bool.not_true, Bool.false_eq_true, if_false, Bool.true_eq_false]
        rcases f77_cases hh hA s with ⟨h1, h2⟩ | ⟨h1, ⟨h2, h3⟩ | ⟨f, j, h2, h3, h4, h5, _, h6⟩⟩
        · rw [h1] at hd; cases hd
        · rw [h3, h2]
          exact ⟨((((σ.add100024 (some d, ())).add100009 (s, ())).add100009 (t, ())).add100106 (none, ())).set100106 ((((σ.add100024 (some d, ())).add100009 (s, ())).add100009 (t, ())).t100106.length) (none, ()), by simp, ⟨o, qs, hh.same rfl rfl⟩, Fr.of rfl rfl rfl⟩
        · rw [h6, h2]
          simp only [Option.bind_some]
          rw [if_neg (by decide)]
          have hl : ((((((σ.add100024 (some d, ())).add100009 (s, ())).add100009 (t, ())).add100106 (none, ())).set100106 ((((σ.add100024 (some d, ())).add100009 (s, ())).add100009 (t, ())).t100106.length) (some j, ())).t108[j]?) = some (cont f) := h5
          rw [hl]
          simp only [Option.bind_some]
          by_cases hm : f.2.2.1 = []
          · rw [if_neg (by simp [cont, hm]), if_neg (by simp [hm])]
            have hh2 : DVq (((((σ.add100024 (some d, ())).add100009 (s, ())).add100009 (t, ())).add100106 (none, ())).set100106 ((((σ.add100024 (some d, ())).add100009 (s, ())).add100009 (t, ())).t100106.length) (some j, ())) d n0 A o qs := h.same rfl rfl
            have hc4 : (((((σ.add100024 (some d, ())).add100009 (s, ())).add100009 (t, ())).add100106 (none, ())).set100106 ((((σ.add100024 (some d, ())).add100009 (s, ())).add100009 (t, ())).t100106.length) (some j, ())).t100106[(((σ.add100024 (some d, ())).add100009 (s, ())).add100009 (t, ())).t100106.length]? = some (some j, ()) := set100106_get got100106
            refine Gives.from ?_ (Fr.of (σ' := ((((σ.add100024 (some d, ())).add100009 (s, ())).add100009 (t, ())).add100106 (none, ())).set100106 ((((σ.add100024 (some d, ())).add100009 (s, ())).add100009 (t, ())).t100106.length) (some j, ())) rfl rfl rfl)
            obtain ⟨σ', e1, e2, e3⟩ := f72_eq hh2 hA h1 (p1 := f80 σ.t100024.length ((σ.add100024 (some d, ())).t100009.length) ((((σ.add100024 (some d, ())).add100009 (s, ())).add100009 (t, ())).t100106.length) (((σ.add100024 (some d, ())).add100009 (s, ())).t100009.length)) (k := fun B => putA B (setL (nameF t f) false (dropL s B.2.1))) (by
              intro σ1 o1 q1 q2 q3
              have g1 : σ1.t100024[σ.t100024.length]? = some (some d, ()) := by rw [q3.2.2.2.2]; exact hc1
              have g2 : σ1.t100009[(σ.add100024 (some d, ())).t100009.length]? = some (s, ()) := by rw [q3.2.2.2.1]; exact hc2
              have g3 : σ1.t100009[((σ.add100024 (some d, ())).add100009 (s, ())).t100009.length]? = some (t, ()) := by rw [q3.2.2.2.1]; exact hc3
              have g4 : σ1.t100106[(((σ.add100024 (some d, ())).add100009 (s, ())).add100009 (t, ())).t100106.length]? = some (some j, ()) := by rw [q3.2.1]; exact hc4
              have q4 := q1.unlink hA.goes.sorted s
              have hp := rest_perm (q1.names hA.goes.sorted) h3
              rw [h4] at hp
              have hnd := List.nodup_cons.1 ((hp.map (fun q : FR × Nat => q.2)).nodup_iff.1 q1.nodup)
              have q5 := q4.link (g := nameF t f) (j := j) (hA.goes.sorted.drop s) hnd.1 (by
                have := (q1.lie _ h3).1
                simp only [cont, hm] at this
                simpa [cont, nameF, St.set105] using this) (q1.lie _ h3).2
              refine ⟨_, ?_, ⟨_, _, q5⟩, frame105.trans frame105⟩
              unfold f80
              have r3 : ∀ X, (σ1.set105 d X).t100009[((σ.add100024 (some d, ())).add100009 (s, ())).t100009.length]? = some (t, ()) := fun X => g3
              have r4 : ∀ X, (σ1.set105 d X).t100106[(((σ.add100024 (some d, ())).add100009 (s, ())).add100009 (t, ())).t100106.length]? = some (some j, ()) := fun X => g4
              simp only [g1, g2, q1.ho, Option.bind_eq_bind, Option.bind_some, set105_get q1.ho, r3, r4]
              rfl)
            exact ⟨σ', by rw [e1]; rfl, e2, e3⟩
          · have hpos : 0 < f.2.2.1.length := List.length_pos_iff.2 hm
            have hlt : (cont f).2.1 < ((cont f).1.length : Int) := by
              show (f.2.1.length : Int) < ((f.2.1 ++ f.2.2.1).length : Int)
              rw [List.length_append]; omega
            rw [if_pos (decide_eq_true hlt), if_pos hm]
            exact ⟨_, rfl, ⟨o, qs, hh.same rfl rfl⟩, Fr.of rfl rfl rfl⟩

/-! ### Arm -/
theorem f32_eq (h : DV σ d n0 A) (n : Int) : Gives (f32 (some d) n σ) σ d n0 (armA A n) := by
  obtain ⟨o, qs, h⟩ := h
  unfold f32 armA
  rw [f70_eq h]
  cases hd : A.2.2.2.1 with
  | true => exact ⟨_, by simp, ⟨o, qs, h⟩, Fr.refl _ _ _⟩
  | false =>
    by_cases c : n < 1
    · rw [if_neg (by decide), if_pos c]
      exact ⟨_, by simp [c], ⟨o, qs, h⟩, Fr.refl _ _ _⟩
    · rw [if_neg (by decide), if_neg c]
      have hq := h.state (a := n) (b := o.2.2.2.1)
      have hdn : o.2.2.2.1 = false := h.down.trans hd
      rw [hdn] at hq
      exact ⟨σ.set105 d (o.1, o.2.1, n, false, ()), by simp [c, h.ho, hdn], ⟨_, _, hq⟩, frame105⟩

/-! ### Append -/
theorem f73_id {B : AD} : ∀ σ1 o1, DVq σ1 d n0 B o1 qs → o1.2.1 = o.2.1 → Oth σ σ1 → ∃ σ2, f73 σ1 = some ((), σ2) ∧ DV σ2 d n0 (id B) ∧ Fr σ1 σ2 d n0 :=
  fun σ1 o1 q1 _ _ => ⟨σ1, rfl, ⟨_, _, q1⟩, Fr.refl _ _ _⟩

theorem f24_eq (h : DV σ d n0 A) (hA : OkA A) (s b : List UInt8) (hs : s.length < 9223372036854775808) : Gives (f24 (some d) s b σ) σ d n0 (appendA A s b) := by
  obtain ⟨o, qs, h⟩ := h
  unfold f24 appendA
  rw [f70_eq h]
  simp only [Option.bind_eq_bind, Option.bind_some, f71_eq s hs, h.ho]
  cases hd : A.2.2.2.1 with
  | true => exact ⟨_, by simp, ⟨o, qs, h⟩, Fr.refl _ _ _⟩
  | false =>
    simp only [Bool.false_eq_true, if_false]
    rw [if_neg (by decide)]
    cases hn : okName s with
    | false => exact ⟨_, by simp, ⟨o, qs, h⟩, Fr.refl _ _ _⟩
    | true =>
      simp only [Bool.not_true, Bool.false_eq_true, if_false, Bool.true_eq_false]
      have hdB : ∀ L, (putA A L).2.2.2.1 = false := fun L => hd
      have hlen := h.len
      rcases h.look hA.sorted s with ⟨h1, h2, h3⟩ | ⟨f, j, h1, h2, h3, h4, h5⟩
      · simp only [h2, Option.getD_none, zeroK, Option.isNone_none, Bool.not_true, Bool.false_eq_true, if_false, if_true, Option.bind_some, f20_eq h hA, h.room, used_id hA, decide_eq_true_eq]
        have hw : IntKind.wrap .i64 (65536 - 0) = 65536 := by decide
        rw [hw, hlen]
        have hsz : fsize (emptyF s) = 0 := rfl
        by_cases c1 : (A.2.1.length : Int) ≥ 128
        · rw [if_pos c1, if_pos (.inl ⟨by rw [h1]; rfl, by omega⟩)]
          exact ⟨_, rfl, ⟨o, qs, h⟩, Fr.refl _ _ _⟩
        rw [if_neg c1]
        by_cases c2 : (b.length : Int) > 65536
        · rw [if_pos c2, if_pos (.inr (.inl (by rw [h1]; simp only [Option.getD_none, hsz]; omega)))]
          exact ⟨_, rfl, ⟨o, qs, h⟩, Fr.refl _ _ _⟩
        rw [if_neg c2]
        by_cases c3 : (b.length : Int) > A.1 - ((usedL A.2.1 : Nat) : Int)
        · rw [if_pos c3, if_pos (.inr (.inr (by omega)))]
          exact ⟨_, rfl, ⟨o, qs, h⟩, Fr.refl _ _ _⟩
        rw [if_neg c3]
        have hc : ¬ full A s b := by
          simp only [full, h1, Option.getD_none, hsz, not_or, not_and]
          exact ⟨fun _ => by omega, by omega, by omega⟩
        rw [if_neg hc]
        have hB := hA.appended hc
        rw [h1] at hB ⊢
        have e0 : (σ.add108 ([], 0, ())).t105[d]? = some o := h.ho
        rw [e0]
        simp only [Option.bind_some]
        have q0 : DVq (σ.add108 ([], 0, ())) d n0 A o qs := by
          refine ⟨h.ho, h.room, h.armed, h.down, h.map, h.files, h.nodup, fun q hq => ?_, by have := h.base; simp [St.add108]; omega⟩
          obtain ⟨a1, a2⟩ := h.lie q hq
          refine ⟨?_, a2⟩
          simp only [St.add108]
          rw [List.getElem?_append_left (List.getElem?_eq_some_iff.1 a1).1]; exact a1
        have hnew : σ.t108.length ∉ qs.map (·.2) := fun hm => by
          obtain ⟨q, hq, e⟩ := List.mem_map.1 hm
          have := (List.getElem?_eq_some_iff.1 (h.lie q hq).1).1
          omega
        have q1 := q0.link (g := emptyF s) (j := σ.t108.length) hA.sorted hnew got108 h.base
        have q2 := q1.upd (g := moreF (emptyF s) b) hA.sorted.set List.mem_cons_self rfl
        have q3 := q2.perm (L := setL (moreF (emptyF s) b) false A.2.1) (by
          refine (setL_perm _ _).trans (List.Perm.trans ?_ (setL_perm _ _).symm)
          refine List.Perm.cons _ ?_
          refine (dropL_congr (setL_perm _ _)).trans ?_
          have e1 : (moreF (emptyF s) b).1 = s := rfl
          have e2 : (emptyF s).1 = s := rfl
          rw [e1, e2]
          simp only [dropL, e2, beq_self_eq_true, cond_true, List.nil_append]
          rw [dropL_none (L := dropL s A.2.1)]
          rw [dropL_none h1]; exact h1)
        have g1 : ((σ.add108 ([], 0, ())).set105 d (o.1, mapSet .str (.ptr 108) s (some σ.t108.length) o.2.1, o.2.2.1, o.2.2.2.1, ())).t108[σ.t108.length]? = some ([], 0, ()) := got108
        rw [g1]
        simp only [Option.bind_some]
        have hl : ([] : List UInt8).length + b.length ≤ 9223372036854775807 := by simp; omega
        rw [if_pos hl]
        have hB' : OkA (putA (putA A (setL (emptyF s) false A.2.1)) (setL (moreF (emptyF s) b) false A.2.1)) := hB
        obtain ⟨σ', e1, e2, e3⟩ := f72_eq (k := id) q3 hB' (hdB _) f73_id
        refine ⟨σ', ?_, e2, ((frame_add108 h.base).trans (frame105.trans (frame108 h.base))).trans e3⟩
        have e4 : (([] : List UInt8) ++ b, (0 : Int), ()) = cont (moreF (emptyF s) b) := rfl
        rw [e4]
        have e5 : (emptyF s).1 = s := rfl
        rw [e5] at e1
        rw [e1]; rfl
      · have hfs := hA.each f (findL_some h1).1
        have hcl : (cont f).1.length = fsize f := by simp [cont, fsize]
        simp only [h2, Option.getD_some, Option.isNone_some, Bool.not_false, Bool.false_eq_true, if_false, if_true, Option.bind_some, f20_eq h hA, h.room, used_id hA, decide_eq_true_eq, h5, hcl]
        have hw : IntKind.wrap .i64 (65536 - (fsize f : Int)) = 65536 - (fsize f : Int) := wrap_id (by omega) (by omega)
        rw [hw]
        by_cases c2 : (b.length : Int) > 65536 - (fsize f : Int)
        · rw [if_pos c2, if_pos (.inr (.inl (by rw [h1]; simp only [Option.getD_some]; omega)))]
          exact ⟨_, rfl, ⟨o, qs, h⟩, Fr.refl _ _ _⟩
        rw [if_neg c2]
        by_cases c3 : (b.length : Int) > A.1 - ((usedL A.2.1 : Nat) : Int)
        · rw [if_pos c3, if_pos (.inr (.inr (by omega)))]
          exact ⟨_, rfl, ⟨o, qs, h⟩, Fr.refl _ _ _⟩
        rw [if_neg c3]
        have hc : ¬ full A s b := by
          simp only [full, h1, Option.getD_some, not_or, not_and]
          exact ⟨fun h => by simp at h, by omega, by omega⟩
        rw [if_neg hc]
        have hB := hA.appended hc
        rw [h1] at hB ⊢
        have q2 := h.upd (g := moreF f b) hA.sorted h3 rfl
        have hl : fsize f + b.length ≤ 9223372036854775807 := by omega
        rw [if_pos hl]
        obtain ⟨σ', e1, e2, e3⟩ := f72_eq (k := id) q2 hB (hdB _) f73_id
        refine ⟨σ', ?_, e2, (frame108 (h.lie _ h3).2).trans e3⟩
        have e4 : ((cont f).1 ++ b, (cont f).2.1, ()) = cont (moreF f b) := by simp [cont, moreF]
        rw [e4]
        rw [e1]; rfl

/-! ### Crash -/
theorem f27_loop (d n0 : Nat) (A0 : AD) : ∀ (suf pre : List FR) (keep : List Int) (σ : St) (A : AD), DV σ d n0 A → A.2.1 = pre ++ suf → SortL (pre ++ suf) → pre.length + suf.length ≤ 128 → (∀ f ∈ suf, fsize f ≤ 65536) →
    ∃ keep' σ', f27_l0 (some d) ((pre ++ suf).map (·.1)) keep ((pre.length : Nat) : Int) σ = some (keep', ((pre.length + suf.length : Nat) : Int), σ') ∧ DV σ' d n0 (putA A (pre ++ crashL suf keep)) ∧ Fr σ σ' d n0
  | [], pre, keep, σ, A, h, hL, hs, hl, hf => by
    rw [f27_l0]
    refine ⟨keep, σ, ?_, ?_, Fr.refl _ _ _⟩
    · simp
    · simp only [crashL]; rw [← hL]; exact h
  | f :: r, pre, keep, σ, A, h, hL, hs, hl, hf => by
    rw [f27_l0]
    obtain ⟨o, qs, h⟩ := h
    have hsA : SortL A.2.1 := by rw [hL]; exact hs
    have hfs := hf f List.mem_cons_self
    have hfd : findL f.1 A.2.1 = some f := findL_of hsA (by rw [hL]; simp) rfl
    have hlook := h.look hsA f.1
    rw [hfd] at hlook
    rcases hlook with ⟨h1, _⟩ | ⟨f', j, h1, h2, h3, h4, h5⟩
    · cases h1
    simp only [Option.some.injEq] at h1; subst h1
    have hn : pre.length < ((pre ++ f :: r).map (·.1)).length := by simp
    have hix : ix ((pre ++ f :: r).map (·.1)) ((pre.length : Nat) : Int) = some f.1 := by rw [ix_at hn]; simp
    have hlt : ((pre.length : Nat) : Int) < (((pre ++ f :: r).map (·.1)).length : Int) := by omega
    simp only [List.length_cons] at hl
    have hw : IntKind.wrap .i64 ((pre.length : Int) + 1) = (((pre ++ [f]).length : Nat) : Int) := by rw [wrap_id (by omega) (by omega)]; simp
    have hmore : IntKind.wrap .i64 (((cont f).1.length : Int) - (cont f).2.1) = (f.2.2.1.length : Int) := by
      unfold fsize at hfs
      have : ((cont f).1.length : Int) - (cont f).2.1 = (f.2.2.1.length : Int) := by simp [cont]; omega
      rw [this, wrap_id (by omega) (by omega)]
    have happ : (pre ++ [f]) ++ r = pre ++ f :: r := by simp
    simp only [hlt, decide_true, if_true, hix, Option.bind_eq_bind, Option.bind_some, h.ho, h2, Option.getD_some, h5, hmore, hw]
    have next : ∀ (g : FR) (keep2 : List Int) (σ2 : St), g.1 = f.1 → DV σ2 d n0 (putA A (pre ++ g :: r)) → Fr σ σ2 d n0 →
        ∃ keep' σ', f27_l0 (some d) ((pre ++ f :: r).map (·.1)) keep2 (((pre ++ [f]).length : Nat) : Int) σ2 = some (keep', ((pre.length + (f :: r).length : Nat) : Int), σ') ∧ DV σ' d n0 (putA A (pre ++ g :: crashL r keep2)) ∧ Fr σ σ' d n0 := by
      intro g keep2 σ2 hg hv hfr
      have hnm : (pre ++ f :: r).map (·.1) = ((pre ++ [g]) ++ r).map (·.1) := by simp [hg]
      obtain ⟨k', σ', e1, e2, e3⟩ := f27_loop d n0 A0 r (pre ++ [g]) keep2 σ2 (putA A (pre ++ g :: r)) hv (by simp [putA]) (SortL_names hnm hs) (by simp; omega) (fun x hx => hf x (List.mem_cons_of_mem _ hx))
      refine ⟨k', σ', ?_, ?_, hfr.trans e3⟩
      · rw [hnm]
        have hpl : (pre ++ [f]).length = (pre ++ [g]).length := by simp
        rw [hpl, e1]
        simp only [List.length_append, List.length_cons, List.length_nil]
        congr 3
        omega
      · have : (pre ++ [g]) ++ crashL r keep2 = pre ++ g :: crashL r keep2 := by simp
        rw [this] at e2; exact e2
    simp only [crashL]
    cases hm : f.2.2.1 with
    | nil =>
      have e : ((f.1, f.2.1, [], ()) : FR) = f := by rw [← hm]
      have h0 : (((([] : List UInt8).length : Int) == 0) : Bool) = true := rfl
      rw [if_pos h0]
      simp only [List.isEmpty_nil, cond_true, e]
      refine next f keep σ rfl ?_ (Fr.refl _ _ _)
      rw [← hL]; exact ⟨o, qs, h⟩
    | cons c t =>
      have h0 : ((((c :: t : List UInt8).length : Int) == 0) : Bool) = false := by
        have : ¬ (((c :: t : List UInt8).length : Int) = 0) := by simp only [List.length_cons]; omega
        simpa using this
      have hkl := keepN_le keep (c :: t).length
      have hfs' := hfs
      unfold fsize at hfs'
      rw [hm] at hfs'
      have hw1 : IntKind.wrap .i64 (((c :: t : List UInt8).length : Int) + 1) = ((c :: t : List UInt8).length : Int) + 1 := wrap_id (by omega) (by omega)
      rw [h0]
      simp only [Bool.false_eq_true, if_false, List.isEmpty_cons, cond_false, hw1]
      have hz : ((if decide ((keep.length : Int) > 0) = true then
          (ix keep 0).bind fun x49 => if ((c :: t : List UInt8).length : Int) + 1 ≠ 0 then if (0 : Int) ≤ 1 ∧ 1 ≤ (keep.length : Int) then some (keep.drop (Int.toNat 1), Int.tmod (if 0 > x49 then 0 else x49) (((c :: t : List UInt8).length : Int) + 1)) else none else none
          else some (keep, 0)) : Option (List Int × Int)) = some (keep.tail, ((keepN keep (c :: t).length : Nat) : Int)) := by
        cases keep with
        | nil => simp [keepN]
        | cons y r' =>
          have hne : ((c :: t : List UInt8).length : Int) + 1 ≠ 0 := by omega
          have hgt : ((y :: r').length : Int) > 0 := by simp only [List.length_cons]; omega
          have hle : (0 : Int) ≤ 1 ∧ 1 ≤ ((y :: r').length : Int) := ⟨by decide, by simp only [List.length_cons]; omega⟩
          have hix0 : ix (y :: r') 0 = some y := rfl
          rw [if_pos (decide_eq_true hgt), hix0, Option.bind_some, if_pos hne, if_pos hle]
          congr 1
          have : (if 0 > y then (0 : Int) else y).tmod (((c :: t : List UInt8).length : Int) + 1) = ((keepN (y :: r') (c :: t).length : Nat) : Int) := by
            simp only [keepN]
            by_cases hy : 0 < y
            · rw [if_neg (by omega), if_pos hy]
              have := Int.tmod_nonneg (((c :: t : List UInt8).length : Int) + 1) (Int.le_of_lt hy)
              omega
            · rw [if_neg hy]
              have : (if 0 > y then (0 : Int) else y) = 0 := by split <;> omega
              rw [this]; simp
          rw [this]; rfl
      rw [hz]
      simp only [Option.bind_some]
      have hsafe : (cont f).2.1 = (f.2.1.length : Int) := rfl
      have hb : (cont f).1 = f.2.1 ++ c :: t := by rw [← hm]; rfl
      have hw2 : IntKind.wrap .i64 ((f.2.1.length : Int) + ((keepN keep (c :: t).length : Nat) : Int)) = ((f.2.1.length + keepN keep (c :: t).length : Nat) : Int) := by rw [wrap_id (by omega) (by omega)]; omega
      rw [hsafe, hw2, hb]
      rw [if_pos ⟨by omega, by simp only [List.length_append]; omega⟩]
      simp only [set108_get h5, Option.bind_some, set108_set, Int.toNat_natCast]
      have hcont : ((f.2.1 ++ c :: t).take (f.2.1.length + keepN keep (c :: t).length), ((((f.2.1 ++ c :: t).take (f.2.1.length + keepN keep (c :: t).length)).length : Nat) : Int), ()) = cont (f.1, f.2.1 ++ (c :: t).take (keepN keep (c :: t).length), [], ()) := by
        have : (f.2.1 ++ c :: t).take (f.2.1.length + keepN keep (c :: t).length) = f.2.1 ++ (c :: t).take (keepN keep (c :: t).length) := by
          rw [List.take_append, List.take_of_length_le (l := f.2.1) (by omega)]; simp
        simp only [cont, this, List.append_nil]
      rw [hcont]
      refine next (f.1, f.2.1 ++ (c :: t).take (keepN keep (c :: t).length), [], ()) keep.tail _ rfl ?_ (frame108 (h.lie _ h3).2)
      have q1 := h.upd (g := (f.1, f.2.1 ++ (c :: t).take (keepN keep (c :: t).length), [], ())) hsA h3 rfl
      refine ⟨_, _, q1.perm (L := pre ++ (f.1, f.2.1 ++ (c :: t).take (keepN keep (c :: t).length), [], ()) :: r) ?_⟩
      refine (setL_perm _ _).trans (List.Perm.trans ?_ List.perm_middle.symm)
      refine List.Perm.cons _ ?_
      have p1 := dropL_perm hsA hfd
      rw [hL] at p1
      have p2 : (f :: (pre ++ r)).Perm (f :: dropL f.1 A.2.1) := by
        rw [hL]; exact List.perm_middle.symm.trans p1
      exact (List.Perm.cons_inv p2).symm

theorem f27_eq (h : DV σ d n0 A) (hA : OkA A) (keep : List Int) : Gives (f27 (some d) keep σ) σ d n0 (0, crashA A keep) := by
  have hf := hA.files
  obtain ⟨k', σ', e1, e2, e3⟩ := f27_loop d n0 A A.2.1 [] keep σ A h rfl hA.sorted (by simp; exact hf) hA.each
  obtain ⟨o, qs, h⟩ := h
  obtain ⟨o2, qs2, h2⟩ := e2
  unfold f27
  rw [f21_eq h hA]
  have e1' : f27_l0 (some d) (A.2.1.map (·.1)) keep 0 σ = some (k', ((0 + A.2.1.length : Nat) : Int), σ') := e1
  simp only [Option.isNone_some, Option.bind_eq_bind, Option.bind_some, e1', h2.ho, set105_get h2.ho, set105_set]
  rw [if_neg (by decide)]
  exact ⟨_, rfl, ⟨_, _, h2.state⟩, e3.trans frame105⟩

/-! ### A new one -/
theorem f18_eq {room : Int} (h1 : 0 ≤ room) (h2 : room ≤ 1048576) : f18 room σ = some ((some σ.t105.length, 0), σ.add105 (room, [], 0, false, ())) ∧ DV (σ.add105 (room, [], 0, false, ())) σ.t105.length σ.t108.length (room, [], 0, false, ()) ∧ OkA (room, [], 0, false, ()) := by
  refine ⟨?_, ⟨(room, [], 0, false, ()), [], ?_⟩, ?_⟩
  · unfold f18
    have c1 : ¬ room < 0 := by omega
    have c2 : ¬ room > 1048576 := by omega
    simp [c1, c2]
  · exact ⟨got105, rfl, rfl, rfl, List.Perm.refl _, List.Perm.refl _, List.nodup_nil, by simp, Nat.le_refl _⟩
  · exact ⟨List.Pairwise.nil, Nat.zero_le _, fun f hf => by simp at hf, h1, h2, Int.le_refl 0, (by decide : (0 : Int) < 9223372036854775808)⟩
end
section
variable {σ : St} {d n0 : Nat} {A : AD}
/-- What other disks keep. -/
structure Keeps (σ σ' : St) : Prop where
  t47 : σ'.t47 = σ.t47
  t105 : ∀ i, i < σ.t105.length → σ'.t105[i]? = σ.t105[i]?
  t108 : ∀ j, j < σ.t108.length → σ'.t108[j]? = σ.t108[j]?
  l108 : σ.t108.length ≤ σ'.t108.length

theorem Keeps.of {σ1 σ' : St} {y : denFs fs105} (h1 : σ1 = σ.add105 y) (hf : Fr σ1 σ' σ.t105.length σ.t108.length) : Keeps σ σ' := by
  subst h1
  refine ⟨hf.t47, fun i hi => ?_, fun j hj => hf.t108 j hj, hf.l108⟩
  rw [hf.t105 i (by omega) (by simp [St.add105]; omega)]
  simp only [St.add105]
  rw [List.getElem?_append_left hi]

theorem DV.keep {σ' : St} (h : DV σ d n0 A) (hk : Keeps σ σ') : DV σ' d n0 A := by
  obtain ⟨o, qs, a1, a2, a3, a4, a5, a6, a7, a8, a9⟩ := h
  refine ⟨o, qs, ?_, a2, a3, a4, a5, a6, a7, fun q hq => ?_, Nat.le_trans a9 hk.l108⟩
  · rw [hk.t105 d (List.getElem?_eq_some_iff.1 a1).1]; exact a1
  · obtain ⟨b1, b2⟩ := a8 q hq
    exact ⟨by rw [hk.t108 _ (List.getElem?_eq_some_iff.1 b1).1]; exact b1, b2⟩

end
/-! ### Do both say the same? -/
theorem f51_loop (l : List (List UInt8)) (hl : l.length < 9223372036854775808) : ∀ (k n : Nat), n + k = l.length → ∃ z, f51_l0 l l (n : Int) = some (.inl z)
  | 0, n, h => by
    rw [f51_l0]
    have : n = l.length := by omega
    subst this
    exact ⟨_, by simp; rfl⟩
  | k + 1, n, h => by
    rw [f51_l0]
    have hn : n < l.length := by omega
    have hw : IntKind.wrap .i64 ((n : Int) + 1) = ((n + 1 : Nat) : Int) := by rw [wrap_id (by omega) (by omega)]; omega
    have h1 : ((n : Int) < (l.length : Int)) := by omega
    obtain ⟨z, ih⟩ := f51_loop l hl k (n + 1) (by omega)
    refine ⟨z, ?_⟩
    simp only [h1, decide_true, if_true, ix_at hn, Option.bind_eq_bind, Option.bind_some, hw, ih, beq_self_eq_true, Bool.not_true]
    rw [if_neg Bool.false_ne_true]

theorem f51_eq (l : List (List UInt8)) (hl : l.length < 9223372036854775808) : f51 l l = some true := by
  obtain ⟨z, h0⟩ := f51_loop l hl l.length 0 (by omega)
  rw [show (((0 : Nat) : Int)) = (0 : Int) from rfl] at h0
  unfold f51
  rw [if_neg (by simp), h0]
  rfl

end Go.Proofs.Ytlfemhkabjafeaa.M

/- Printed by own program: twins and walks. -/
set_option linter.unusedVariables false
set_option maxRecDepth 100000
namespace Go.Proofs.Ytlfemhkabjafeaa.M
open Go.Proofs (Try.prog Try.func84 Try.f84 Try.func40 Try.f40 Try.func41 Try.f41 Try.func43 Try.f43)

def f84x (p0 : List UInt8) (k : Option Nat) (xs : List Int) (σ : St) : Option (List Int) :=
  f85 p0 >>= fun r2 =>
  if (decide (r2 < 0)) = true then
  some xs
  else
  f86 k r2 σ >>= fun r6 =>
  if r6.2 = true then
  if (xs.length + 1) * 8 ≤ 140737488355328 then
  some (xs ++ [r2])
  else none
  else
  some xs

theorem f84_x {p0 : List UInt8} {k : Option Nat} {xs : List Int} {σ : St} {p : List Int} (h : f84x p0 k xs σ = some p) {w : World} {G0 : Gh} {Ls : List LS} {b1 b3 : Nat} {v0 : Value} (hH : Holds w G0 (tabs σ) (LS.raw v0 3 8 .i xs :: LS.iter b3 (.cells #[v0] 29 (0, 0)) :: LS.box b1 (.ptr 116) k :: Ls)) (hN : NoHole Ls) {args : List Value} (hA : All2 (EnR G0) [.kv .str p0, .val (.pointer (some ⟨b1, 0, none⟩)), .val (.pointer (some ⟨b3, 0, none⟩))] args) : Calls Try.prog 84 args.toArray w (PostF G0 (fun _ => .tup []) (tabs σ) (fun v => LS.raw v 3 8 .i p :: LS.iter b3 (.cells #[v] 29 (0, 0)) :: LS.box b1 (.ptr 116) k :: Ls)) := by
  refine introX Try.func84 rfl (by kernel_rfl) hA (fun a hE => ?_)
  have hle : G0.le G0 := Gh.le_refl G0
  unfold f84x at h
  refine wp_seq_k (fun K hK1 => ?_)
  refine wp_region_from ?_
  refine segO 1 [] [(7, .kv .str p0)] (Os := []) trivial hE hH (by kernel_rfl) (fun a hE => ?_)
  obtain ⟨r2, hr2, h⟩ := bs h
  refine stepCall (d := (some 8)) (f85_ok hr2) hE hH (NoHole.cons (fun _ _ _ => rfl) (NoHole.cons (fun _ _ _ => rfl) (NoHole.cons (fun _ _ _ => rfl) hN))) (by kernel_rfl) (by kernel_rfl) trivial (fun a w G hl1 hE hH => ?_)
  have hle := Gh.le_trans hle hl1
  refine segO 1 [] [(4, .kv .i r2)] (Os := []) trivial hE hH (by kernel_rfl) (fun a hE => ?_)
  refine wpFrom_end (by kernel_rfl) ?_
  refine Exit.then_normal (hK1 _ _ ?_)
  refine wp_seq_k (fun K hK3 => ?_)
  refine wp_seq_k (fun K hK4 => ?_)
  refine wp_region_from ?_
  refine segO 2 [] [(10, .kv .bool (decide (r2 < 0)))] (Os := []) trivial hE hH (by kernel_rfl) (fun a hE => ?_)
  refine wpFrom_end (by kernel_rfl) ?_
  refine Exit.then_normal (hK4 _ _ ?_)
  refine condE (b := decide (r2 < 0)) hE (by kernel_rfl) (fun hc => ?_) (fun hc => ?_)
  · replace h := ifT hc h
    refine wp_ret ?_
    refine Exit.then_ret ?_
    cases h
    exact retX0 v0 rfl hE hle hH
  · replace h := ifF hc h
    refine wp_skip ?_
    refine Exit.then_normal (hK3 _ _ ?_)
    refine wp_seq_k (fun K hK5 => ?_)
    refine wp_region_from ?_
    refine segO 2 [.bx 2 (.ptr 116) k] [(12, .kv (.ptr 116) k), (13, .kv .i r2)] (Os := [_]) ⟨(rfl : (LS.raw v0 3 8 .i xs :: LS.iter b3 (.cells #[v0] 29 (0, 0)) :: LS.box b1 (.ptr 116) k :: Ls)[2]? = some (LS.box b1 (.ptr 116) k)), trivial⟩ hE hH (by kernel_rfl) (fun a hE => ?_)
    obtain ⟨r6, hr6, h⟩ := bs h
    refine stepCall (d := (some 14)) (f86_ok hr6) hE hH (NoHole.cons (fun _ _ _ => rfl) (NoHole.cons (fun _ _ _ => rfl) (NoHole.cons (fun _ _ _ => rfl) hN))) (by kernel_rfl) (by kernel_rfl) trivial (fun a w G hl2 hE hH => ?_)
    have hle := Gh.le_trans hle hl2
    refine segO 5 [] [(6, .kv .bool r6.2)] (Os := []) trivial hE hH (by kernel_rfl) (fun a hE => ?_)
    refine wpFrom_end (by kernel_rfl) ?_
    refine Exit.then_normal (hK5 _ _ ?_)
    refine wp_seq_k (fun K hK7 => ?_)
    refine wp_region_from ?_
    refine segO 1 [] [(17, .kv .bool r6.2)] (Os := []) trivial hE hH (by kernel_rfl) (fun a hE => ?_)
    refine wpFrom_end (by kernel_rfl) ?_
    refine Exit.then_normal (hK7 _ _ ?_)
    refine condE (b := r6.2) hE (by kernel_rfl) (fun hc => ?_) (fun hc => ?_)
    · replace h := ifT hc h
      refine wp_region_from ?_
      refine stepLoadX 1 (b := b3) (v := v0) (e := 29) (d := (some 18)) hE hH (by kernel_rfl) rfl (by kernel_rfl) (fun a hE => ?_)
      refine segO 1 [] [(19, .kv .i r2)] (Os := []) trivial hE hH (by kernel_rfl) (fun a hE => ?_)
      refine stepBuildS (d := (some 20)) .i [r2] hE hH (by kernel_rfl) (by kernel_rfl) (fun a w G hl3 hE hH => ?_)
      have hle := Gh.le_trans hle hl3
      obtain ⟨q8, h⟩ := gd h
      refine stepAppR (bt := 8) (ys := [r2]) (e' := 3) (d := (some 21)) 0 hE hH (by kernel_rfl) rfl (by kernel_rfl) q8 (fun v9 a w G hl4 hE hH _ _ => ?_)
      have hle := Gh.le_trans hle hl4
      refine stepStoreX 1 (b := b3) (v := v9) hE hH (by kernel_rfl) rfl List.mem_cons_self (fun w G hl5 hE hH => ?_)
      have hle := Gh.le_trans hle hl5
      refine wpFrom_end (by kernel_rfl) ?_
      cases h
      exact endX0 v9 rfl hE hle hH
    · replace h := ifF hc h
      refine wp_skip ?_
      cases h
      exact endX0 v0 rfl hE hle hH

def f40_l0 (p0 : Option Nat) (σ : St) (r17 : List (List UInt8)) (l19 : List Int) (x20 : Int) : Option ((List Int) × Int) :=
  if (decide (x20 < (r17.length : Int))) = true then
  (ix r17 x20) >>= fun x29 =>
  p0 >>= fun i31 =>
  (σ.t116[i31]?) >>= fun o32 =>
  if (decide ((x29.length : Int) > (IntKind.wrap .i64 ((o32.2.1.length : Int) + 1)))) = true then
  if (0 : Int) ≤ (IntKind.wrap .i64 ((o32.2.1.length : Int) + 1)) ∧ (IntKind.wrap .i64 ((o32.2.1.length : Int) + 1)) ≤ (x29.length : Int) then
  p0 >>= fun i36 =>
  (σ.t116[i36]?) >>= fun o37 =>
  if o37.2.1.length + [46].length ≤ 9223372036854775807 then
  if ((x29.take (Int.toNat (IntKind.wrap .i64 ((o32.2.1.length : Int) + 1)))) == (o37.2.1 ++ [46])) = true then
  if (0 : Int) ≤ (IntKind.wrap .i64 ((o32.2.1.length : Int) + 1)) ∧ (IntKind.wrap .i64 ((o32.2.1.length : Int) + 1)) ≤ (x29.length : Int) then
  f84x (x29.drop (Int.toNat (IntKind.wrap .i64 ((o32.2.1.length : Int) + 1)))) p0 l19 σ >>= fun r40 =>
  f40_l0 p0 σ r17 r40 (IntKind.wrap .i64 (x20 + 1))
  else none
  else
  f40_l0 p0 σ r17 l19 (IntKind.wrap .i64 (x20 + 1))
  else none
  else none
  else
  f40_l0 p0 σ r17 l19 (IntKind.wrap .i64 (x20 + 1))
  else
  some ((l19, x20))
  partial_fixpoint

def f40 (p0 : Option Nat) (σ : St) : Option (List Int) :=
  if p0.isNone = true then
  some []
  else
  p0 >>= fun i8 =>
  (σ.t116[i8]?) >>= fun o9 =>
  f31 o9.1 σ >>= fun r10 =>
  if r10 = true then
  some []
  else
  p0 >>= fun i15 =>
  (σ.t116[i15]?) >>= fun o16 =>
  f21 o16.1 σ >>= fun r17 =>
  f40_l0 p0 σ r17 [] 0 >>= fun z43 =>
  if z43.1.length < 4611686018427387904 then
  some (sortedI z43.1)
  else none

theorem f40_ok {p0 : Option Nat} {σ : St} {p : List Int} (h : f40 p0 σ = some p) : Spec Try.prog 40 [.kv (.ptr 116) p0] (tabs σ) (.kv (.list .i) p) (tabs σ) := by
  refine Spec.intro Try.func40 (by kernel_rfl) rfl (by kernel_rfl) (fun a w G0 Ls hE hH hN => ?_)
  have hle : G0.le G0 := Gh.le_refl G0
  unfold f40 at h
  refine wp_seq_k (fun K hK1 => ?_)
  refine wp_region_from ?_
  refine stepBox (e := 63) (d := (some 1)) (.ptr 116) p0 hE hH (by kernel_rfl) (by kernel_rfl) (fun b2 a w G hl1 hE hH => ?_)
  have hle := Gh.le_trans hle hl1
  refine segO 1 [] [(2, .val (.slice none 0 0))] (Os := []) trivial hE hH (by kernel_rfl) (fun a hE => ?_)
  refine wpFrom_end (by kernel_rfl) ?_
  refine Exit.then_normal (hK1 _ _ ?_)
  refine wp_seq_k (fun K hK3 => ?_)
  refine wp_region_from ?_
  refine stepAllocX (e := 29) (d := (some 3)) hE hH (by kernel_rfl) (by kernel_rfl) (fun b4 a w G hl2 hE hH => ?_)
  have hle := Gh.le_trans hle hl2
  have hH := hH.nilRaw 3 8 .i
  refine wpFrom_end (by kernel_rfl) ?_
  refine Exit.then_normal (hK3 _ _ ?_)
  refine wp_seq_k (fun K hK5 => ?_)
  refine wp_seq_k (fun K hK6 => ?_)
  refine wp_region_from ?_
  refine segO 3 [.bx 2 (.ptr 116) p0] [(10, .kv .bool p0.isNone)] (Os := [_]) ⟨(rfl : (LS.raw (.slice none 0 0) 3 8 .i [] :: LS.iter b4 (.cells #[(.slice none 0 0)] 29 (0, 0)) :: LS.box b2 (.ptr 116) p0 :: Ls)[2]? = some (LS.box b2 (.ptr 116) p0)), trivial⟩ hE hH (by kernel_rfl) (fun a hE => ?_)
  by_cases hc : p0.isNone = true
  · replace h := ifT hc h
    have hE := hE.setB 10 (by kernel_rfl) hc
    refine segO 6 [] [(16, .kv .bool true)] (Os := []) trivial hE hH (by kernel_rfl) (fun a hE => ?_)
    refine wpFrom_end (by kernel_rfl) ?_
    refine Exit.then_normal (hK6 _ _ ?_)
    refine condT hE (by kernel_rfl) rfl ?_
    refine wp_seq_k (fun K hK7 => ?_)
    refine wp_region_from ?_
    refine stepLoadX 1 (b := b4) (v := (.slice none 0 0)) (e := 29) (d := (some 17)) hE hH (by kernel_rfl) rfl (by kernel_rfl) (fun a hE => ?_)
    refine segO 1 [] [(2, .val (.slice none 0 0))] (Os := []) trivial hE hH (by kernel_rfl) (fun a hE => ?_)
    refine wpFrom_end (by kernel_rfl) ?_
    refine Exit.then_normal (hK7 _ _ ?_)
    refine wp_ret ?_
    refine Exit.then_ret ?_
    have hH := hH.drop (fun _ _ _ => rfl)
    have hH := hH.drop (fun _ _ _ => rfl)
    have hH := hH.drop (fun _ _ _ => rfl)
    cases h
    exact ret1 rfl hE hle hH (by kernel_rfl)
  · replace h := ifN hc h
    have hE := hE.setB 10 (by kernel_rfl) (bf hc)
    obtain ⟨i8, hi8, h⟩ := bs h
    obtain ⟨o9, ho9, h⟩ := bs h
    refine segO 4 [.bx 2 (.ptr 116) p0, .pt i8, .ob fs116 o9] [(14, .kv (.ptr 105) o9.1)] (Os := [_, _, _]) ⟨(rfl : (LS.raw (.slice none 0 0) 3 8 .i [] :: LS.iter b4 (.cells #[(.slice none 0 0)] 29 (0, 0)) :: LS.box b2 (.ptr 116) p0 :: Ls)[2]? = some (LS.box b2 (.ptr 116) p0)), hi8, (ob116 (s := σ) ho9), trivial⟩ hE hH (by kernel_rfl) (fun a hE => ?_)
    obtain ⟨r10, hr10, h⟩ := bs h
    refine stepCall (d := (some 15)) (f31_ok hr10) hE hH (NoHole.cons (fun _ _ _ => rfl) (NoHole.cons (fun _ _ _ => rfl) (NoHole.cons (fun _ _ _ => rfl) hN))) (by kernel_rfl) (by kernel_rfl) trivial (fun a w G hl3 hE hH => ?_)
    have hle := Gh.le_trans hle hl3
    refine segO 1 [] [(16, .kv .bool r10)] (Os := []) trivial hE hH (by kernel_rfl) (fun a hE => ?_)
    refine wpFrom_end (by kernel_rfl) ?_
    refine Exit.then_normal (hK6 _ _ ?_)
    refine condE (b := r10) hE (by kernel_rfl) (fun hc => ?_) (fun hc => ?_)
    · replace h := ifT hc h
      refine wp_seq_k (fun K hK11 => ?_)
      refine wp_region_from ?_
      refine stepLoadX 1 (b := b4) (v := (.slice none 0 0)) (e := 29) (d := (some 17)) hE hH (by kernel_rfl) rfl (by kernel_rfl) (fun a hE => ?_)
      refine segO 1 [] [(2, .val (.slice none 0 0))] (Os := []) trivial hE hH (by kernel_rfl) (fun a hE => ?_)
      refine wpFrom_end (by kernel_rfl) ?_
      refine Exit.then_normal (hK11 _ _ ?_)
      refine wp_ret ?_
      refine Exit.then_ret ?_
      have hH := hH.drop (fun _ _ _ => rfl)
      have hH := hH.drop (fun _ _ _ => rfl)
      have hH := hH.drop (fun _ _ _ => rfl)
      cases h
      exact ret1 rfl hE hle hH (by kernel_rfl)
    · replace h := ifF hc h
      refine wp_skip ?_
      refine Exit.then_normal (hK5 _ _ ?_)
      refine wp_seq_k (fun K hK12 => ?_)
      refine wp_region_from ?_
      refine stepMFX (f := 84) (l := [.pointer (some ⟨b2, 0, none⟩), .pointer (some ⟨b4, 0, none⟩)]) (d := (some 18)) hE (by kernel_rfl) (by kernel_rfl) (fun a hE => ?_)
      refine segO 1 [] [(4, .val (.func (.func 84) #[] (List.toArray [.pointer (some ⟨b2, 0, none⟩), .pointer (some ⟨b4, 0, none⟩)])))] (Os := []) trivial hE hH (by kernel_rfl) (fun a hE => ?_)
      refine wpFrom_end (by kernel_rfl) ?_
      refine Exit.then_normal (hK12 _ _ ?_)
      refine wp_seq_k (fun K hK13 => ?_)
      refine wp_seq_k (fun K hK14 => ?_)
      refine wp_region_from ?_
      obtain ⟨i15, hi15, h⟩ := bs h
      obtain ⟨o16, ho16, h⟩ := bs h
      refine segO 4 [.bx 2 (.ptr 116) p0, .pt i15, .ob fs116 o16] [(22, .kv (.ptr 105) o16.1)] (Os := [_, _, _]) ⟨(rfl : (LS.raw (.slice none 0 0) 3 8 .i [] :: LS.iter b4 (.cells #[(.slice none 0 0)] 29 (0, 0)) :: LS.box b2 (.ptr 116) p0 :: Ls)[2]? = some (LS.box b2 (.ptr 116) p0)), hi15, (ob116 (s := σ) ho16), trivial⟩ hE hH (by kernel_rfl) (fun a hE => ?_)
      obtain ⟨r17, hr17, h⟩ := bs h
      refine stepCall (d := (some 23)) (f21_ok hr17) hE hH (NoHole.cons (fun _ _ _ => rfl) (NoHole.cons (fun _ _ _ => rfl) (NoHole.cons (fun _ _ _ => rfl) hN))) (by kernel_rfl) (by kernel_rfl) trivial (fun a w G hl4 hE hH => ?_)
      have hle := Gh.le_trans hle hl4
      refine segO 2 [] [(24, .kv .i (r17.length : Int)), (25, .kv .i 0)] (Os := []) trivial hE hH (by kernel_rfl) (fun a hE => ?_)
      refine wpFrom_end (by kernel_rfl) ?_
      refine Exit.then_normal (hK14 _ _ ?_)
      refine wp_block ?_
      obtain ⟨z43, hz43, h⟩ := bs h
      refine loop_intro (fun Q21 c hQ hc => ?_)
      have key : ∀ (l19 : List Int) (x20 : Int) (rr : (List Int) × Int), f40_l0 p0 σ r17 l19 x20 = some rr → ∀ (a : Act) (w : World) (G : Gh) (v18 : Value), G0.le G → EnvR G 59 a [(1, .val (.pointer (some ⟨b2, 0, none⟩))), (2, .val (.slice none 0 0)), (3, .val (.pointer (some ⟨b4, 0, none⟩))), (4, .val (.func (.func 84) #[] (List.toArray [.pointer (some ⟨b2, 0, none⟩), .pointer (some ⟨b4, 0, none⟩)]))), (23, .kv (.list .str) r17), (24, .kv .i (r17.length : Int)), (25, .kv .i x20)] → Holds w G (tabs σ) (LS.raw v18 3 8 .i l19 :: LS.iter b4 (.cells #[v18] 29 (0, 0)) :: LS.box b2 (.ptr 116) p0 :: Ls) → (∀ z44 : (List Int) × Int, rr = z44 → ∀ (a : Act) (w : World) (G : Gh) (v18 : Value), G0.le G → EnvR G 59 a [(1, .val (.pointer (some ⟨b2, 0, none⟩))), (2, .val (.slice none 0 0)), (3, .val (.pointer (some ⟨b4, 0, none⟩))), (4, .val (.func (.func 84) #[] (List.toArray [.pointer (some ⟨b2, 0, none⟩), .pointer (some ⟨b4, 0, none⟩)]))), (23, .kv (.list .str) r17), (24, .kv .i (r17.length : Int)), (25, .kv .i z44.2)] → Holds w G (tabs σ) (LS.raw v18 3 8 .i z44.1 :: LS.iter b4 (.cells #[v18] 29 (0, 0)) :: LS.box b2 (.ptr 116) p0 :: Ls) → Q21 (.exit 0) a w) → Rnd Try.prog c Q21 a w := by
        refine f40_l0.partial_correctness p0 σ r17 _ ?_
        intro self ih24 l19 x20 rr h a w G v18 hle hE hH hx22
        refine rnd_step' hc ?_
        refine wp_seq_k (fun K hK25 => ?_)
        refine wp_region_from ?_
        refine segO 1 [] [(26, .kv .bool (decide (x20 < (r17.length : Int))))] (Os := []) trivial hE hH (by kernel_rfl) (fun a hE => ?_)
        refine wpFrom_end (by kernel_rfl) ?_
        refine Exit.then_normal (hK25 _ _ ?_)
        refine wp_seq_k (fun K hK26 => ?_)
        refine condE (b := decide (x20 < (r17.length : Int))) hE (by kernel_rfl) (fun hc => ?_) (fun hc => ?_)
        · replace h := ifT hc h
          refine wp_skip ?_
          refine Exit.then_normal (hK26 _ _ ?_)
          refine wp_seq_k (fun K hK27 => ?_)
          refine wp_block ?_
          refine wp_seq_k (fun K hK28 => ?_)
          refine wp_region_from ?_
          obtain ⟨x29, hx29, h⟩ := bs h
          refine segO 3 [.ix .str x29] [(6, .kv .str x29)] (Os := [_]) ⟨(IxAt.of (k := .str) hx29), trivial⟩ hE hH (by kernel_rfl) (fun a hE => ?_)
          refine wpFrom_end (by kernel_rfl) ?_
          refine Exit.then_normal (hK28 _ _ ?_)
          refine wp_seq_k (fun K hK30 => ?_)
          refine wp_region_from ?_
          obtain ⟨i31, hi31, h⟩ := bs h
          obtain ⟨o32, ho32, h⟩ := bs h
          refine segO 7 [.bx 2 (.ptr 116) p0, .pt i31, .ob fs116 o32] [(7, .kv .i (IntKind.wrap .i64 ((o32.2.1.length : Int) + 1)))] (Os := [_, _, _]) ⟨(rfl : (LS.raw v18 3 8 .i l19 :: LS.iter b4 (.cells #[v18] 29 (0, 0)) :: LS.box b2 (.ptr 116) p0 :: Ls)[2]? = some (LS.box b2 (.ptr 116) p0)), hi31, (ob116 (s := σ) ho32), trivial⟩ hE hH (by kernel_rfl) (fun a hE => ?_)
          refine wpFrom_end (by kernel_rfl) ?_
          refine Exit.then_normal (hK30 _ _ ?_)
          refine wp_seq_k (fun K hK33 => ?_)
          by_cases hc : (decide ((x29.length : Int) > (IntKind.wrap .i64 ((o32.2.1.length : Int) + 1)))) = true
          · replace h := ifT hc h
            have c34 := hc
            obtain ⟨q35, h⟩ := gd h
            obtain ⟨i36, hi36, h⟩ := bs h
            obtain ⟨o37, ho37, h⟩ := bs h
            obtain ⟨q38, h⟩ := gd h
            refine region_par 13 [] [(0, 0), (0, 0), (0, 0), (0, 0), (0, 0), (0, 0), (0, 0), (0, 0), (0, 0), (0, 0), (0, 0), (0, 0), (0, 0)] [.kv .str x29, .kv .i (x29.length : Int), .kv .i (IntKind.wrap .i64 ((o32.2.1.length : Int) + 1)), .kv .bool (decide ((x29.length : Int) > (IntKind.wrap .i64 ((o32.2.1.length : Int) + 1)))), .kv .bool true, .kv .str x29, .kv .i (IntKind.wrap .i64 ((o32.2.1.length : Int) + 1)), .kv .str (x29.take (Int.toNat (IntKind.wrap .i64 ((o32.2.1.length : Int) + 1)))), .kv (.ptr 116) p0, .kv (.ptr 116) (some i36), .fldA 116 i36 1, .kv .str o37.2.1, .kv .str (o37.2.1 ++ [46])] (fun _ => tabs σ) (fun _ => LS.raw v18 3 8 .i l19 :: LS.iter b4 (.cells #[v18] 29 (0, 0)) :: LS.box b2 (.ptr 116) p0 :: Ls) (by kernel_rfl) (by kernel_rfl) hE hH
                    ⟨⟨⟨⟨⟨⟨⟨⟨⟨⟨⟨⟨⟨trivial,
                    anyk (fun k => obR [] (Os := []) trivial (by kernel_rfl) (by kernel_rfl))⟩,
                    anyk (fun k => obR [] (Os := []) trivial (by kernel_rfl) (by kernel_rfl))⟩,
                    anyk (fun k => obR [] (Os := []) trivial (by kernel_rfl) (by kernel_rfl))⟩,
                    anyk (fun k => obR [] (Os := []) trivial (by kernel_rfl) (by kernel_rfl))⟩,
                    anyk (fun k => obRe [] (Os := []) trivial (by kernel_rfl) (by kernel_rfl) (eb2 c34 rfl))⟩,
                    anyk (fun k => obR [] (Os := []) trivial (by kernel_rfl) (by kernel_rfl))⟩,
                    anyk (fun k => obR [] (Os := []) trivial (by kernel_rfl) (by kernel_rfl))⟩,
                    anyk (fun k => obR [] (Os := [_]) ⟨q35, trivial⟩ (by kernel_rfl) (by kernel_rfl))⟩,
                    anyk (fun k => obR [.bx 2 (.ptr 116) p0] (Os := [_]) ⟨(rfl : (LS.raw v18 3 8 .i l19 :: LS.iter b4 (.cells #[v18] 29 (0, 0)) :: LS.box b2 (.ptr 116) p0 :: Ls)[2]? = some (LS.box b2 (.ptr 116) p0)), trivial⟩ (by kernel_rfl) (by kernel_rfl))⟩,
                    anyk (fun k => obR [.pt i36] (Os := [_]) ⟨hi36, trivial⟩ (by kernel_rfl) (by kernel_rfl))⟩,
                    anyk (fun k => obR [] (Os := []) trivial (by kernel_rfl) (by kernel_rfl))⟩,
                    anyk (fun k => obR [.ob fs116 o37] (Os := [_]) ⟨(ob116 (s := σ) ho37), trivial⟩ (by kernel_rfl) (by kernel_rfl))⟩,
                    anyk (fun k => obR [] (Os := [_]) ⟨q38, trivial⟩ (by kernel_rfl) (by kernel_rfl))⟩ (fun a w G hl5 hE hH => ?_)
            have hle := Gh.le_trans hle hl5
            refine segO 2 [] [(49, .kv .bool ((x29.take (Int.toNat (IntKind.wrap .i64 ((o32.2.1.length : Int) + 1)))) == (o37.2.1 ++ [46])))] (Os := []) trivial hE hH (by kernel_rfl) (fun a hE => ?_)
            refine wpFrom_end (by kernel_rfl) ?_
            refine Exit.then_normal (hK33 _ _ ?_)
            refine condE (b := (x29.take (Int.toNat (IntKind.wrap .i64 ((o32.2.1.length : Int) + 1)))) == (o37.2.1 ++ [46])) hE (by kernel_rfl) (fun hc => ?_) (fun hc => ?_)
            · replace h := ifT hc h
              refine wp_region_from ?_
              obtain ⟨q39, h⟩ := gd h
              refine segO 4 [] [(50, .val (.func (.func 84) #[] (List.toArray [.pointer (some ⟨b2, 0, none⟩), .pointer (some ⟨b4, 0, none⟩)]))), (53, .kv .str (x29.drop (Int.toNat (IntKind.wrap .i64 ((o32.2.1.length : Int) + 1)))))] (Os := [_]) ⟨q39, trivial⟩ hE hH (by kernel_rfl) (fun a hE => ?_)
              obtain ⟨r40, hr40, h⟩ := bs h
              refine stepCallX (f := 84) (vs := [.pointer (some ⟨b2, 0, none⟩), .pointer (some ⟨b4, 0, none⟩)]) (As := [.kv .str (x29.drop (Int.toNat (IntKind.wrap .i64 ((o32.2.1.length : Int) + 1))))]) (R := fun _ => .tup []) (F := fun v => LS.raw v 3 8 .i r40 :: LS.iter b4 (.cells #[v] 29 (0, 0)) :: LS.box b2 (.ptr 116) p0 :: Ls) (d := (some 54)) (by kernel_rfl) (fun args hA => f84_x hr40 hH hN (All2_app hA ⟨rfl, rfl, trivial⟩)) hE (by kernel_rfl) (by kernel_rfl) (fun v41 a w G hl6 hE hH => ?_)
              have hle := Gh.le_trans hle hl6
              refine wpFrom_end (by kernel_rfl) ?_
              refine Exit.in_normal ?_
              refine Exit.then_normal (hK27 _ _ ?_)
              refine wp_region_from ?_
              refine segO 2 [] [(25, .kv .i (IntKind.wrap .i64 (x20 + 1)))] (Os := []) trivial hE hH (by kernel_rfl) (fun a hE => ?_)
              refine wpFrom_end (by kernel_rfl) ?_
              refine Exit.then_normal ?_
              exact ih24 _ _ _ h _ _ _ v41 hle (hE.subC (by kernel_rfl)) hH hx22
            · replace h := ifF hc h
              refine wp_skip ?_
              refine Exit.in_normal ?_
              refine Exit.then_normal (hK27 _ _ ?_)
              refine wp_region_from ?_
              refine segO 2 [] [(25, .kv .i (IntKind.wrap .i64 (x20 + 1)))] (Os := []) trivial hE hH (by kernel_rfl) (fun a hE => ?_)
              refine wpFrom_end (by kernel_rfl) ?_
              refine Exit.then_normal ?_
              exact ih24 _ _ _ h _ _ _ v18 hle (hE.subC (by kernel_rfl)) hH hx22
          · replace h := ifN hc h
            have c42 := hc
            refine region_par 13 [] [(0, 0), (0, 0), (0, 0), (0, 0), (0, 0), (0, 0), (0, 0), (0, 0), (0, 0), (0, 0), (0, 0), (0, 0), (0, 0)] [.kv .str x29, .kv .i (x29.length : Int), .kv .i (IntKind.wrap .i64 ((o32.2.1.length : Int) + 1)), .kv .bool (decide ((x29.length : Int) > (IntKind.wrap .i64 ((o32.2.1.length : Int) + 1)))), .kv .bool false, .undef, .undef, .undef, .undef, .undef, .undef, .undef, .undef] (fun _ => tabs σ) (fun _ => LS.raw v18 3 8 .i l19 :: LS.iter b4 (.cells #[v18] 29 (0, 0)) :: LS.box b2 (.ptr 116) p0 :: Ls) (by kernel_rfl) (by kernel_rfl) hE hH
                    ⟨⟨⟨⟨⟨⟨⟨⟨⟨⟨⟨⟨⟨trivial,
                    anyk (fun k => obR [] (Os := []) trivial (by kernel_rfl) (by kernel_rfl))⟩,
                    anyk (fun k => obR [] (Os := []) trivial (by kernel_rfl) (by kernel_rfl))⟩,
                    anyk (fun k => obR [] (Os := []) trivial (by kernel_rfl) (by kernel_rfl))⟩,
                    anyk (fun k => obR [] (Os := []) trivial (by kernel_rfl) (by kernel_rfl))⟩,
                    anyk (fun k => obRe [] (Os := []) trivial (by kernel_rfl) (by kernel_rfl) (eb2 (bf c42) rfl))⟩,
                    anyk (fun k => obR [] (Os := []) trivial (by kernel_rfl) (by kernel_rfl))⟩,
                    anyk (fun k => obR [] (Os := []) trivial (by kernel_rfl) (by kernel_rfl))⟩,
                    anyk (fun k => obR [] (Os := []) trivial (by kernel_rfl) (by kernel_rfl))⟩,
                    anyk (fun k => obR [] (Os := []) trivial (by kernel_rfl) (by kernel_rfl))⟩,
                    anyk (fun k => obR [] (Os := []) trivial (by kernel_rfl) (by kernel_rfl))⟩,
                    anyk (fun k => obR [] (Os := []) trivial (by kernel_rfl) (by kernel_rfl))⟩,
                    anyk (fun k => obR [] (Os := []) trivial (by kernel_rfl) (by kernel_rfl))⟩,
                    anyk (fun k => obR [] (Os := []) trivial (by kernel_rfl) (by kernel_rfl))⟩ (fun a w G hl7 hE hH => ?_)
            have hle := Gh.le_trans hle hl7
            refine segO 2 [] [(49, .kv .bool false)] (Os := []) trivial hE hH (by kernel_rfl) (fun a hE => ?_)
            refine wpFrom_end (by kernel_rfl) ?_
            refine Exit.then_normal (hK33 _ _ ?_)
            refine condF hE (by kernel_rfl) rfl ?_
            refine wp_skip ?_
            refine Exit.in_normal ?_
            refine Exit.then_normal (hK27 _ _ ?_)
            refine wp_region_from ?_
            refine segO 2 [] [(25, .kv .i (IntKind.wrap .i64 (x20 + 1)))] (Os := []) trivial hE hH (by kernel_rfl) (fun a hE => ?_)
            refine wpFrom_end (by kernel_rfl) ?_
            refine Exit.then_normal ?_
            exact ih24 _ _ _ h _ _ _ v18 hle (hE.subC (by kernel_rfl)) hH hx22
        · replace h := ifF hc h
          refine wp_exit ?_
          refine Exit.then_exit ?_
          refine Exit.then_exit ?_
          cases h
          exact hx22 _ rfl _ _ _ v18 hle (hE.subC (by kernel_rfl)) hH
      refine key _ _ _ hz43 _ _ _ (.slice none 0 0) hle (hE.subC (by kernel_rfl)) hH ?_
      · intro z44 hz a w G v18 hle hE hH
        subst hz
        rw [hQ]
        refine Exit.in_eq ?_
        refine Exit.then_normal (hK13 _ _ ?_)
        refine wp_seq_k (fun K hK45 => ?_)
        refine wp_region_from ?_
        refine stepLoadX 1 (b := b4) (v := v18) (e := 29) (d := (some 56)) hE hH (by kernel_rfl) rfl (by kernel_rfl) (fun a hE => ?_)
        obtain ⟨q46, h⟩ := gd h
        refine stepCallV (f := 87) (As := [.val v18]) (R := .tup []) (d := (some 57)) (T' := tabs σ) (Ls' := LS.raw v18 3 8 .i (sortedI z43.1) :: LS.iter b4 (.cells #[v18] 29 (0, 0)) :: LS.box b2 (.ptr 116) p0 :: Ls) (by kernel_rfl) (fun args hA => ?_) hE (by kernel_rfl) (by kernel_rfl) trivial (fun a w G hl8 hE hH => ?_)
        · obtain rfl := one_val hA
          exact sort87_calls (j := 0) hH rfl q46
        · have hle := Gh.le_trans hle hl8
          obtain ⟨G, hl9, hv47, hH⟩ := hH.pub0
          have hle := Gh.le_trans hle hl9
          have hE := hE.mono hl9
          have hE := EnvR.more (v := v18) (e := .kv (.list .i) (sortedI z43.1)) hE 56 (by kernel_rfl) hv47
          refine wpFrom_end (by kernel_rfl) ?_
          refine Exit.then_normal (hK45 _ _ ?_)
          refine wp_seq_k (fun K hK48 => ?_)
          refine wp_region_from ?_
          refine stepLoadX 0 (b := b4) (v := v18) (e := 29) (d := (some 58)) hE hH (by kernel_rfl) rfl (by kernel_rfl) (fun a hE => ?_)
          have hE := EnvR.more (v := v18) (e := .kv (.list .i) (sortedI z43.1)) hE 58 (by kernel_rfl) hv47
          refine segO 1 [] [(2, .kv (.list .i) (sortedI z43.1))] (Os := []) trivial hE hH (by kernel_rfl) (fun a hE => ?_)
          refine wpFrom_end (by kernel_rfl) ?_
          refine Exit.then_normal (hK48 _ _ ?_)
          refine wp_ret ?_
          have hH := hH.drop (fun _ _ _ => rfl)
          have hH := hH.drop (fun _ _ _ => rfl)
          cases h
          exact ret1 rfl hE hle hH (by kernel_rfl)

def f41_l0 (p0 : Option Nat) (r8 : List Int) (x48 : Int) (σ49 : St) : Option (Sum (Int × St) (Int × St)) :=
  if (decide (x48 < (IntKind.wrap .i64 ((r8.length : Int) - 1)))) = true then
  p0 >>= fun i59 =>
  (σ49.t116[i59]?) >>= fun o60 =>
  (ix r8 x48) >>= fun x61 =>
  f91 p0 x61 σ49 >>= fun r62 =>
  f37 o60.1 r62 σ49 >>= fun r63 =>
  if (r63.1 != 0) = true then
  some (.inr (r63.1, r63.2))
  else
  f41_l0 p0 r8 (IntKind.wrap .i64 (x48 + 1)) r63.2
  else
  some (.inl (x48, σ49))
  partial_fixpoint

def f41_l1 (p0 : Option Nat) (r8 : List Int) (x104 : Int) (σ105 : St) : Option (Sum (Int × St) (Int × St)) :=
  if (decide (x104 < (IntKind.wrap .i64 ((r8.length : Int) - 1)))) = true then
  p0 >>= fun i115 =>
  (σ105.t116[i115]?) >>= fun o116 =>
  (ix r8 x104) >>= fun x117 =>
  f91 p0 x117 σ105 >>= fun r118 =>
  f37 o116.1 r118 σ105 >>= fun r119 =>
  if (r119.1 != 0) = true then
  some (.inr (r119.1, r119.2))
  else
  f41_l1 p0 r8 (IntKind.wrap .i64 (x104 + 1)) r119.2
  else
  some (.inl (x104, σ105))
  partial_fixpoint

def f41 (p0 : Option Nat) (p1 : Int) (p2 : List UInt8) (σ : St) : Option (Int × St) :=
  if p0.isNone = true then
  some (1, σ)
  else
  if ((decide (p1 < 0)) || (decide (p1 > 1099511627776))) = true then
  some (3, σ)
  else
  f40 p0 σ >>= fun r8 =>
  if (decide ((r8.length : Int) > 0)) = true then
  (ix r8 (IntKind.wrap .i64 ((r8.length : Int) - 1))) >>= fun x11 =>
  if (decide (p1 ≤ x11)) = true then
  some (9, σ)
  else
  f83 p0 σ >>= fun r15 =>
  if (r15.1 != 0) = true then
  some (r15.1, r15.2)
  else
  p0 >>= fun i20 =>
  (r15.2.t116[i20]?) >>= fun o21 =>
  f88 p0 r15.2 >>= fun r22 =>
  f90 p1 >>= fun r23 =>
  if r23.length + p2.length ≤ 9223372036854775807 then
  f89 (r23 ++ p2) >>= fun r25 =>
  f24 o21.1 r22 r25 r15.2 >>= fun r26 =>
  if (r26.1 != 0) = true then
  some (r26.1, r26.2)
  else
  p0 >>= fun i31 =>
  (r26.2.t116[i31]?) >>= fun o32 =>
  f88 p0 r26.2 >>= fun r33 =>
  f33 o32.1 r33 r26.2 >>= fun r34 =>
  if (r34.1 != 0) = true then
  some (r34.1, r34.2)
  else
  p0 >>= fun i39 =>
  (r34.2.t116[i39]?) >>= fun o40 =>
  f88 p0 r34.2 >>= fun r41 =>
  f91 p0 p1 r34.2 >>= fun r42 =>
  f36 o40.1 r41 r42 r34.2 >>= fun r43 =>
  if (r43.1 != 0) = true then
  some (r43.1, r43.2)
  else
  f41_l0 p0 r8 0 r43.2 >>= fun rr67 => (match rr67 with
  | .inr yy => some yy
  | .inl z66 =>
  some (0, z66.2))
  else none
  else
  f83 p0 σ >>= fun r71 =>
  if (r71.1 != 0) = true then
  some (r71.1, r71.2)
  else
  p0 >>= fun i76 =>
  (r71.2.t116[i76]?) >>= fun o77 =>
  f88 p0 r71.2 >>= fun r78 =>
  f90 p1 >>= fun r79 =>
  if r79.length + p2.length ≤ 9223372036854775807 then
  f89 (r79 ++ p2) >>= fun r81 =>
  f24 o77.1 r78 r81 r71.2 >>= fun r82 =>
  if (r82.1 != 0) = true then
  some (r82.1, r82.2)
  else
  p0 >>= fun i87 =>
  (r82.2.t116[i87]?) >>= fun o88 =>
  f88 p0 r82.2 >>= fun r89 =>
  f33 o88.1 r89 r82.2 >>= fun r90 =>
  if (r90.1 != 0) = true then
  some (r90.1, r90.2)
  else
  p0 >>= fun i95 =>
  (r90.2.t116[i95]?) >>= fun o96 =>
  f88 p0 r90.2 >>= fun r97 =>
  f91 p0 p1 r90.2 >>= fun r98 =>
  f36 o96.1 r97 r98 r90.2 >>= fun r99 =>
  if (r99.1 != 0) = true then
  some (r99.1, r99.2)
  else
  f41_l1 p0 r8 0 r99.2 >>= fun rr123 => (match rr123 with
  | .inr yy => some yy
  | .inl z122 =>
  some (0, z122.2))
  else none

theorem f41_ok {p0 : Option Nat} {p1 : Int} {p2 : List UInt8} {σ : St} {p : Int × St} (h : f41 p0 p1 p2 σ = some p) : Spec Try.prog 41 [.kv (.ptr 116) p0, .kv .i p1, .kv .str p2] (tabs σ) (.kv .i p.1) (tabs p.2) := by
  refine Spec.intro Try.func41 (by kernel_rfl) rfl (by kernel_rfl) (fun a w G0 Ls hE hH hN => ?_)
  have hle : G0.le G0 := Gh.le_refl G0
  unfold f41 at h
  refine wp_seq_k (fun K hK1 => ?_)
  refine wp_region_from ?_
  refine segO 1 [] [(6, .kv .i 0)] (Os := []) trivial hE hH (by kernel_rfl) (fun a hE => ?_)
  refine wpFrom_end (by kernel_rfl) ?_
  refine Exit.then_normal (hK1 _ _ ?_)
  refine wp_seq_k (fun K hK2 => ?_)
  refine wp_block ?_
  refine wp_seq_k (fun K hK3 => ?_)
  refine wp_region_from ?_
  refine segO 3 [] [(14, .kv .bool p0.isNone)] (Os := []) trivial hE hH (by kernel_rfl) (fun a hE => ?_)
  refine wpFrom_end (by kernel_rfl) ?_
  refine Exit.then_normal (hK3 _ _ ?_)
  refine condE (b := p0.isNone) hE (by kernel_rfl) (fun hc => ?_) (fun hc => ?_)
  · replace h := ifT hc h
    refine wp_seq_k (fun K hK4 => ?_)
    refine wp_region_from ?_
    refine segO 1 [] [(6, .kv .i 1)] (Os := []) trivial hE hH (by kernel_rfl) (fun a hE => ?_)
    refine wpFrom_end (by kernel_rfl) ?_
    refine Exit.then_normal (hK4 _ _ ?_)
    refine wp_ret ?_
    refine Exit.in_ret ?_
    refine Exit.then_ret ?_
    cases h
    exact ret1 rfl hE hle hH (by kernel_rfl)
  · replace h := ifF hc h
    refine wp_seq_k (fun K hK5 => ?_)
    refine wp_region_from ?_
    refine segO 7 [] [(17, .kv .bool ((decide (p1 < 0)) || (decide (p1 > 1099511627776))))] (Os := []) trivial hE hH (by kernel_rfl) (fun a hE => ?_)
    refine wpFrom_end (by kernel_rfl) ?_
    refine Exit.then_normal (hK5 _ _ ?_)
    refine condE (b := (decide (p1 < 0)) || (decide (p1 > 1099511627776))) hE (by kernel_rfl) (fun hc => ?_) (fun hc => ?_)
    · replace h := ifT hc h
      refine wp_seq_k (fun K hK6 => ?_)
      refine wp_region_from ?_
      refine segO 1 [] [(6, .kv .i 3)] (Os := []) trivial hE hH (by kernel_rfl) (fun a hE => ?_)
      refine wpFrom_end (by kernel_rfl) ?_
      refine Exit.then_normal (hK6 _ _ ?_)
      refine wp_ret ?_
      refine Exit.in_ret ?_
      refine Exit.then_ret ?_
      cases h
      exact ret1 rfl hE hle hH (by kernel_rfl)
    · replace h := ifF hc h
      refine wp_skip ?_
      refine Exit.in_normal ?_
      refine Exit.then_normal (hK2 _ _ ?_)
      refine wp_seq_k (fun K hK7 => ?_)
      refine wp_region_from ?_
      refine segO 1 [] [(24, .kv (.ptr 116) p0)] (Os := []) trivial hE hH (by kernel_rfl) (fun a hE => ?_)
      obtain ⟨r8, hr8, h⟩ := bs h
      refine stepCall (d := (some 25)) (f40_ok hr8) hE hH hN (by kernel_rfl) (by kernel_rfl) trivial (fun a w G hl1 hE hH => ?_)
      have hle := Gh.le_trans hle hl1
      refine segO 1 [] [(7, .kv (.list .i) r8)] (Os := []) trivial hE hH (by kernel_rfl) (fun a hE => ?_)
      refine wpFrom_end (by kernel_rfl) ?_
      refine Exit.then_normal (hK7 _ _ ?_)
      refine wp_seq_k (fun K hK9 => ?_)
      refine wp_seq_k (fun K hK10 => ?_)
      refine wp_region_from ?_
      refine segO 4 [] [(29, .kv .bool (decide ((r8.length : Int) > 0)))] (Os := []) trivial hE hH (by kernel_rfl) (fun a hE => ?_)
      by_cases hc : (decide ((r8.length : Int) > 0)) = true
      · replace h := ifT hc h
        have hE := hE.setB 29 (by kernel_rfl) hc
        obtain ⟨x11, hx11, h⟩ := bs h
        refine segO 9 [.ix .i x11] [(38, .kv .bool (decide (p1 ≤ x11)))] (Os := [_]) ⟨(IxAt.of (k := .i) hx11), trivial⟩ hE hH (by kernel_rfl) (fun a hE => ?_)
        refine wpFrom_end (by kernel_rfl) ?_
        refine Exit.then_normal (hK10 _ _ ?_)
        refine condE (b := decide (p1 ≤ x11)) hE (by kernel_rfl) (fun hc => ?_) (fun hc => ?_)
        · replace h := ifT hc h
          refine wp_seq_k (fun K hK12 => ?_)
          refine wp_region_from ?_
          refine segO 1 [] [(6, .kv .i 9)] (Os := []) trivial hE hH (by kernel_rfl) (fun a hE => ?_)
          refine wpFrom_end (by kernel_rfl) ?_
          refine Exit.then_normal (hK12 _ _ ?_)
          refine wp_ret ?_
          refine Exit.then_ret ?_
          cases h
          exact ret1 rfl hE hle hH (by kernel_rfl)
        · replace h := ifF hc h
          refine wp_skip ?_
          refine Exit.then_normal (hK9 _ _ ?_)
          refine wp_seq_k (fun K hK13 => ?_)
          refine wp_seq_k (fun K hK14 => ?_)
          refine wp_region_from ?_
          refine segO 1 [] [(39, .kv (.ptr 116) p0)] (Os := []) trivial hE hH (by kernel_rfl) (fun a hE => ?_)
          obtain ⟨r15, hr15, h⟩ := bs h
          refine stepCall (d := (some 40)) (f83_ok hr15) hE hH hN (by kernel_rfl) (by kernel_rfl) trivial (fun a w G hl2 hE hH => ?_)
          have hle := Gh.le_trans hle hl2
          refine segO 1 [] [(8, .kv .i r15.1)] (Os := []) trivial hE hH (by kernel_rfl) (fun a hE => ?_)
          refine wpFrom_end (by kernel_rfl) ?_
          refine Exit.then_normal (hK14 _ _ ?_)
          refine wp_seq_k (fun K hK16 => ?_)
          refine wp_region_from ?_
          refine segO 2 [] [(42, .kv .bool (r15.1 != 0))] (Os := []) trivial hE hH (by kernel_rfl) (fun a hE => ?_)
          refine wpFrom_end (by kernel_rfl) ?_
          refine Exit.then_normal (hK16 _ _ ?_)
          refine condE (b := r15.1 != 0) hE (by kernel_rfl) (fun hc => ?_) (fun hc => ?_)
          · replace h := ifT hc h
            refine wp_seq_k (fun K hK17 => ?_)
            refine wp_region_from ?_
            refine segO 2 [] [(6, .kv .i r15.1)] (Os := []) trivial hE hH (by kernel_rfl) (fun a hE => ?_)
            refine wpFrom_end (by kernel_rfl) ?_
            refine Exit.then_normal (hK17 _ _ ?_)
            refine wp_ret ?_
            refine Exit.then_ret ?_
            cases h
            exact ret1 rfl hE hle hH (by kernel_rfl)
          · replace h := ifF hc h
            refine wp_skip ?_
            refine Exit.then_normal (hK13 _ _ ?_)
            refine wp_seq_k (fun K hK18 => ?_)
            refine wp_seq_k (fun K hK19 => ?_)
            obtain ⟨i20, hi20, h⟩ := bs h
            obtain ⟨o21, ho21, h⟩ := bs h
            obtain ⟨r22, hr22, h⟩ := bs h
            obtain ⟨r23, hr23, h⟩ := bs h
            obtain ⟨q24, h⟩ := gd h
            obtain ⟨r25, hr25, h⟩ := bs h
            refine region_par 11 [5, 7, 10] [(0, 3), (0, 3), (0, 3), (0, 3), (0, 0), (0, 0), (0, 1), (1, 1), (0, 2), (2, 2), (2, 2)] [.kv (.ptr 116) p0, .kv (.ptr 116) (some i20), .fldA 116 i20 0, .kv (.ptr 105) o21.1, .kv (.ptr 116) p0, .kv .str r22, .kv .i p1, .kv .str r23, .kv .str p2, .kv .str (r23 ++ p2), .kv .str r25] (fun _ => tabs r15.2) (fun _ => Ls) (by kernel_rfl) (by kernel_rfl) hE hH
                    ⟨⟨⟨⟨⟨⟨⟨⟨⟨⟨⟨trivial,
                    anyk (fun k => obR [] (Os := []) trivial (by kernel_rfl) (by kernel_rfl))⟩,
                    anyk (fun k => obR [.pt i20] (Os := [_]) ⟨hi20, trivial⟩ (by kernel_rfl) (by kernel_rfl))⟩,
                    anyk (fun k => obR [] (Os := []) trivial (by kernel_rfl) (by kernel_rfl))⟩,
                    anyk (fun k => obR [.ob fs116 o21] (Os := [_]) ⟨(ob116 (s := r15.2) ho21), trivial⟩ (by kernel_rfl) (by kernel_rfl))⟩,
                    anyk (fun k => obR [] (Os := []) trivial (by kernel_rfl) (by kernel_rfl))⟩,
                    one (obC (k := 0) (d := (some 49)) (f88_ok hr22) rfl hN (by kernel_rfl) (by kernel_rfl) rfl trivial)⟩,
                    anyk (fun k => obR [] (Os := []) trivial (by kernel_rfl) (by kernel_rfl))⟩,
                    one (obC (k := 1) (d := (some 51)) (f90_ok hr23) rfl hN (by kernel_rfl) (by kernel_rfl) rfl trivial)⟩,
                    anyk (fun k => obR [] (Os := []) trivial (by kernel_rfl) (by kernel_rfl))⟩,
                    anyk (fun k => obR [] (Os := [_]) ⟨q24, trivial⟩ (by kernel_rfl) (by kernel_rfl))⟩,
                    one (obC (k := 2) (d := (some 54)) (f89_ok hr25) rfl hN (by kernel_rfl) (by kernel_rfl) rfl trivial)⟩ (fun a w G hl3 hE hH => ?_)
            have hle := Gh.le_trans hle hl3
            obtain ⟨r26, hr26, h⟩ := bs h
            refine stepCall (d := (some 55)) (f24_ok hr26) hE hH hN (by kernel_rfl) (by kernel_rfl) trivial (fun a w G hl4 hE hH => ?_)
            have hle := Gh.le_trans hle hl4
            refine segO 1 [] [(9, .kv .i r26.1)] (Os := []) trivial hE hH (by kernel_rfl) (fun a hE => ?_)
            refine wpFrom_end (by kernel_rfl) ?_
            refine Exit.then_normal (hK19 _ _ ?_)
            refine wp_seq_k (fun K hK27 => ?_)
            refine wp_region_from ?_
            refine segO 2 [] [(57, .kv .bool (r26.1 != 0))] (Os := []) trivial hE hH (by kernel_rfl) (fun a hE => ?_)
            refine wpFrom_end (by kernel_rfl) ?_
            refine Exit.then_normal (hK27 _ _ ?_)
            refine condE (b := r26.1 != 0) hE (by kernel_rfl) (fun hc => ?_) (fun hc => ?_)
            · replace h := ifT hc h
              refine wp_seq_k (fun K hK28 => ?_)
              refine wp_region_from ?_
              refine segO 2 [] [(6, .kv .i r26.1)] (Os := []) trivial hE hH (by kernel_rfl) (fun a hE => ?_)
              refine wpFrom_end (by kernel_rfl) ?_
              refine Exit.then_normal (hK28 _ _ ?_)
              refine wp_ret ?_
              refine Exit.then_ret ?_
              cases h
              exact ret1 rfl hE hle hH (by kernel_rfl)
            · replace h := ifF hc h
              refine wp_skip ?_
              refine Exit.then_normal (hK18 _ _ ?_)
              refine wp_seq_k (fun K hK29 => ?_)
              refine wp_seq_k (fun K hK30 => ?_)
              obtain ⟨i31, hi31, h⟩ := bs h
              obtain ⟨o32, ho32, h⟩ := bs h
              obtain ⟨r33, hr33, h⟩ := bs h
              refine region_par 6 [5] [(0, 1), (0, 1), (0, 1), (0, 1), (0, 0), (0, 0)] [.kv (.ptr 116) p0, .kv (.ptr 116) (some i31), .fldA 116 i31 0, .kv (.ptr 105) o32.1, .kv (.ptr 116) p0, .kv .str r33] (fun _ => tabs r26.2) (fun _ => Ls) (by kernel_rfl) (by kernel_rfl) hE hH
                      ⟨⟨⟨⟨⟨⟨trivial,
                      anyk (fun k => obR [] (Os := []) trivial (by kernel_rfl) (by kernel_rfl))⟩,
                      anyk (fun k => obR [.pt i31] (Os := [_]) ⟨hi31, trivial⟩ (by kernel_rfl) (by kernel_rfl))⟩,
                      anyk (fun k => obR [] (Os := []) trivial (by kernel_rfl) (by kernel_rfl))⟩,
                      anyk (fun k => obR [.ob fs116 o32] (Os := [_]) ⟨(ob116 (s := r26.2) ho32), trivial⟩ (by kernel_rfl) (by kernel_rfl))⟩,
                      anyk (fun k => obR [] (Os := []) trivial (by kernel_rfl) (by kernel_rfl))⟩,
                      one (obC (k := 0) (d := (some 64)) (f88_ok hr33) rfl hN (by kernel_rfl) (by kernel_rfl) rfl trivial)⟩ (fun a w G hl5 hE hH => ?_)
              have hle := Gh.le_trans hle hl5
              obtain ⟨r34, hr34, h⟩ := bs h
              refine stepCall (d := (some 65)) (f33_ok hr34) hE hH hN (by kernel_rfl) (by kernel_rfl) trivial (fun a w G hl6 hE hH => ?_)
              have hle := Gh.le_trans hle hl6
              refine segO 1 [] [(10, .kv .i r34.1)] (Os := []) trivial hE hH (by kernel_rfl) (fun a hE => ?_)
              refine wpFrom_end (by kernel_rfl) ?_
              refine Exit.then_normal (hK30 _ _ ?_)
              refine wp_seq_k (fun K hK35 => ?_)
              refine wp_region_from ?_
              refine segO 2 [] [(67, .kv .bool (r34.1 != 0))] (Os := []) trivial hE hH (by kernel_rfl) (fun a hE => ?_)
              refine wpFrom_end (by kernel_rfl) ?_
              refine Exit.then_normal (hK35 _ _ ?_)
              refine condE (b := r34.1 != 0) hE (by kernel_rfl) (fun hc => ?_) (fun hc => ?_)
              · replace h := ifT hc h
                refine wp_seq_k (fun K hK36 => ?_)
                refine wp_region_from ?_
                refine segO 2 [] [(6, .kv .i r34.1)] (Os := []) trivial hE hH (by kernel_rfl) (fun a hE => ?_)
                refine wpFrom_end (by kernel_rfl) ?_
                refine Exit.then_normal (hK36 _ _ ?_)
                refine wp_ret ?_
                refine Exit.then_ret ?_
                cases h
                exact ret1 rfl hE hle hH (by kernel_rfl)
              · replace h := ifF hc h
                refine wp_skip ?_
                refine Exit.then_normal (hK29 _ _ ?_)
                refine wp_seq_k (fun K hK37 => ?_)
                refine wp_seq_k (fun K hK38 => ?_)
                obtain ⟨i39, hi39, h⟩ := bs h
                obtain ⟨o40, ho40, h⟩ := bs h
                obtain ⟨r41, hr41, h⟩ := bs h
                obtain ⟨r42, hr42, h⟩ := bs h
                refine region_par 9 [5, 8] [(0, 2), (0, 2), (0, 2), (0, 2), (0, 0), (0, 0), (0, 1), (0, 1), (1, 1)] [.kv (.ptr 116) p0, .kv (.ptr 116) (some i39), .fldA 116 i39 0, .kv (.ptr 105) o40.1, .kv (.ptr 116) p0, .kv .str r41, .kv (.ptr 116) p0, .kv .i p1, .kv .str r42] (fun _ => tabs r34.2) (fun _ => Ls) (by kernel_rfl) (by kernel_rfl) hE hH
                        ⟨⟨⟨⟨⟨⟨⟨⟨⟨trivial,
                        anyk (fun k => obR [] (Os := []) trivial (by kernel_rfl) (by kernel_rfl))⟩,
                        anyk (fun k => obR [.pt i39] (Os := [_]) ⟨hi39, trivial⟩ (by kernel_rfl) (by kernel_rfl))⟩,
                        anyk (fun k => obR [] (Os := []) trivial (by kernel_rfl) (by kernel_rfl))⟩,
                        anyk (fun k => obR [.ob fs116 o40] (Os := [_]) ⟨(ob116 (s := r34.2) ho40), trivial⟩ (by kernel_rfl) (by kernel_rfl))⟩,
                        anyk (fun k => obR [] (Os := []) trivial (by kernel_rfl) (by kernel_rfl))⟩,
                        one (obC (k := 0) (d := (some 74)) (f88_ok hr41) rfl hN (by kernel_rfl) (by kernel_rfl) rfl trivial)⟩,
                        anyk (fun k => obR [] (Os := []) trivial (by kernel_rfl) (by kernel_rfl))⟩,
                        anyk (fun k => obR [] (Os := []) trivial (by kernel_rfl) (by kernel_rfl))⟩,
                        one (obC (k := 1) (d := (some 77)) (f91_ok hr42) rfl hN (by kernel_rfl) (by kernel_rfl) rfl trivial)⟩ (fun a w G hl7 hE hH => ?_)
                have hle := Gh.le_trans hle hl7
                obtain ⟨r43, hr43, h⟩ := bs h
                refine stepCall (d := (some 78)) (f36_ok hr43) hE hH hN (by kernel_rfl) (by kernel_rfl) trivial (fun a w G hl8 hE hH => ?_)
                have hle := Gh.le_trans hle hl8
                refine segO 1 [] [(11, .kv .i r43.1)] (Os := []) trivial hE hH (by kernel_rfl) (fun a hE => ?_)
                refine wpFrom_end (by kernel_rfl) ?_
                refine Exit.then_normal (hK38 _ _ ?_)
                refine wp_seq_k (fun K hK44 => ?_)
                refine wp_region_from ?_
                refine segO 2 [] [(80, .kv .bool (r43.1 != 0))] (Os := []) trivial hE hH (by kernel_rfl) (fun a hE => ?_)
                refine wpFrom_end (by kernel_rfl) ?_
                refine Exit.then_normal (hK44 _ _ ?_)
                refine condE (b := r43.1 != 0) hE (by kernel_rfl) (fun hc => ?_) (fun hc => ?_)
                · replace h := ifT hc h
                  refine wp_seq_k (fun K hK45 => ?_)
                  refine wp_region_from ?_
                  refine segO 2 [] [(6, .kv .i r43.1)] (Os := []) trivial hE hH (by kernel_rfl) (fun a hE => ?_)
                  refine wpFrom_end (by kernel_rfl) ?_
                  refine Exit.then_normal (hK45 _ _ ?_)
                  refine wp_ret ?_
                  refine Exit.then_ret ?_
                  cases h
                  exact ret1 rfl hE hle hH (by kernel_rfl)
                · replace h := ifF hc h
                  refine wp_skip ?_
                  refine Exit.then_normal (hK37 _ _ ?_)
                  refine wp_seq_k (fun K hK46 => ?_)
                  refine wp_seq_k (fun K hK47 => ?_)
                  refine wp_region_from ?_
                  refine segO 4 [] [(84, .kv .i (IntKind.wrap .i64 ((r8.length : Int) - 1))), (85, .kv .i 0)] (Os := []) trivial hE hH (by kernel_rfl) (fun a hE => ?_)
                  refine wpFrom_end (by kernel_rfl) ?_
                  refine Exit.then_normal (hK47 _ _ ?_)
                  refine wp_block ?_
                  obtain ⟨rr67, hrr67, h⟩ := bs h
                  refine loop_intro (fun Q50 c hQ hc => ?_)
                  have key : ∀ (x48 : Int) (σ49 : St) (rr : Sum (Int × St) (Int × St)), f41_l0 p0 r8 x48 σ49 = some rr → ∀ (a : Act) (w : World) (G : Gh), G0.le G → EnvR G 103 a [(0, .kv (.ptr 116) p0), (6, .kv .i 0), (7, .kv (.list .i) r8), (84, .kv .i (IntKind.wrap .i64 ((r8.length : Int) - 1))), (85, .kv .i x48)] → Holds w G (tabs σ49) (Ls) → (∀ z66 : Int × St, rr = .inl z66 → ∀ (a : Act) (w : World) (G : Gh), G0.le G → EnvR G 103 a [(0, .kv (.ptr 116) p0), (6, .kv .i 0), (7, .kv (.list .i) r8), (84, .kv .i (IntKind.wrap .i64 ((r8.length : Int) - 1))), (85, .kv .i z66.1)] → Holds w G (tabs z66.2) (Ls) → Q50 (.exit 1) a w) → (∀ yy : Int × St, rr = .inr yy → ∀ (a : Act) (w : World), PostB Try.prog Try.f41 G0 (.kv .i yy.1) (tabs yy.2) Ls .ret a w → Q50 .ret a w) → Rnd Try.prog c Q50 a w := by
                    refine f41_l0.partial_correctness p0 r8 _ ?_
                    intro self ih53 x48 σ49 rr h a w G  hle hE hH hx51 hret52
                    refine rnd_step' hc ?_
                    refine wp_seq_k (fun K hK54 => ?_)
                    refine wp_region_from ?_
                    refine segO 1 [] [(86, .kv .bool (decide (x48 < (IntKind.wrap .i64 ((r8.length : Int) - 1)))))] (Os := []) trivial hE hH (by kernel_rfl) (fun a hE => ?_)
                    refine wpFrom_end (by kernel_rfl) ?_
                    refine Exit.then_normal (hK54 _ _ ?_)
                    refine wp_seq_k (fun K hK55 => ?_)
                    refine condE (b := decide (x48 < (IntKind.wrap .i64 ((r8.length : Int) - 1)))) hE (by kernel_rfl) (fun hc => ?_) (fun hc => ?_)
                    · replace h := ifT hc h
                      refine wp_skip ?_
                      refine Exit.then_normal (hK55 _ _ ?_)
                      refine wp_seq_k (fun K hK56 => ?_)
                      refine wp_block ?_
                      refine wp_seq_k (fun K hK57 => ?_)
                      refine wp_region_from ?_
                      refine segO 2 [] [(12, .kv .i x48)] (Os := []) trivial hE hH (by kernel_rfl) (fun a hE => ?_)
                      refine wpFrom_end (by kernel_rfl) ?_
                      refine Exit.then_normal (hK57 _ _ ?_)
                      refine wp_seq_k (fun K hK58 => ?_)
                      obtain ⟨i59, hi59, h⟩ := bs h
                      obtain ⟨o60, ho60, h⟩ := bs h
                      obtain ⟨x61, hx61, h⟩ := bs h
                      obtain ⟨r62, hr62, h⟩ := bs h
                      refine region_par 10 [9] [(0, 1), (0, 1), (0, 1), (0, 1), (0, 0), (0, 0), (0, 0), (0, 0), (0, 0), (0, 0)] [.kv (.ptr 116) p0, .kv (.ptr 116) (some i59), .fldA 116 i59 0, .kv (.ptr 105) o60.1, .kv (.ptr 116) p0, .kv (.list .i) r8, .kv .i x48, .elA .i x61 0, .kv .i x61, .kv .str r62] (fun _ => tabs σ49) (fun _ => Ls) (by kernel_rfl) (by kernel_rfl) hE hH
                              ⟨⟨⟨⟨⟨⟨⟨⟨⟨⟨trivial,
                              anyk (fun k => obR [] (Os := []) trivial (by kernel_rfl) (by kernel_rfl))⟩,
                              anyk (fun k => obR [.pt i59] (Os := [_]) ⟨hi59, trivial⟩ (by kernel_rfl) (by kernel_rfl))⟩,
                              anyk (fun k => obR [] (Os := []) trivial (by kernel_rfl) (by kernel_rfl))⟩,
                              anyk (fun k => obR [.ob fs116 o60] (Os := [_]) ⟨(ob116 (s := σ49) ho60), trivial⟩ (by kernel_rfl) (by kernel_rfl))⟩,
                              anyk (fun k => obR [] (Os := []) trivial (by kernel_rfl) (by kernel_rfl))⟩,
                              anyk (fun k => obR [] (Os := []) trivial (by kernel_rfl) (by kernel_rfl))⟩,
                              anyk (fun k => obR [] (Os := []) trivial (by kernel_rfl) (by kernel_rfl))⟩,
                              anyk (fun k => obR [.ix .i x61] (Os := [_]) ⟨(IxAt.of (k := .i) hx61), trivial⟩ (by kernel_rfl) (by kernel_rfl))⟩,
                              anyk (fun k => obR [] (Os := []) trivial (by kernel_rfl) (by kernel_rfl))⟩,
                              one (obC (k := 0) (d := (some 97)) (f91_ok hr62) rfl hN (by kernel_rfl) (by kernel_rfl) rfl trivial)⟩ (fun a w G hl9 hE hH => ?_)
                      have hle := Gh.le_trans hle hl9
                      obtain ⟨r63, hr63, h⟩ := bs h
                      refine stepCall (d := (some 98)) (f37_ok hr63) hE hH hN (by kernel_rfl) (by kernel_rfl) trivial (fun a w G hl10 hE hH => ?_)
                      have hle := Gh.le_trans hle hl10
                      refine segO 1 [] [(13, .kv .i r63.1)] (Os := []) trivial hE hH (by kernel_rfl) (fun a hE => ?_)
                      refine wpFrom_end (by kernel_rfl) ?_
                      refine Exit.then_normal (hK58 _ _ ?_)
                      refine wp_seq_k (fun K hK64 => ?_)
                      refine wp_region_from ?_
                      refine segO 2 [] [(100, .kv .bool (r63.1 != 0))] (Os := []) trivial hE hH (by kernel_rfl) (fun a hE => ?_)
                      refine wpFrom_end (by kernel_rfl) ?_
                      refine Exit.then_normal (hK64 _ _ ?_)
                      refine condE (b := r63.1 != 0) hE (by kernel_rfl) (fun hc => ?_) (fun hc => ?_)
                      · replace h := ifT hc h
                        refine wp_seq_k (fun K hK65 => ?_)
                        refine wp_region_from ?_
                        refine segO 2 [] [(6, .kv .i r63.1)] (Os := []) trivial hE hH (by kernel_rfl) (fun a hE => ?_)
                        refine wpFrom_end (by kernel_rfl) ?_
                        refine Exit.then_normal (hK65 _ _ ?_)
                        refine wp_ret ?_
                        refine Exit.in_ret ?_
                        refine Exit.then_ret ?_
                        refine Exit.then_ret ?_
                        cases h
                        exact hret52 _ rfl _ _ (ret1 rfl hE hle hH (by kernel_rfl))
                      · replace h := ifF hc h
                        refine wp_skip ?_
                        refine Exit.in_normal ?_
                        refine Exit.then_normal (hK56 _ _ ?_)
                        refine wp_region_from ?_
                        refine segO 2 [] [(85, .kv .i (IntKind.wrap .i64 (x48 + 1)))] (Os := []) trivial hE hH (by kernel_rfl) (fun a hE => ?_)
                        refine wpFrom_end (by kernel_rfl) ?_
                        refine Exit.then_normal ?_
                        exact ih53 _ _ _ h _ _ _  hle (hE.subC (by kernel_rfl)) hH hx51 hret52
                    · replace h := ifF hc h
                      refine wp_exit ?_
                      refine Exit.then_exit ?_
                      refine Exit.then_exit ?_
                      cases h
                      exact hx51 _ rfl _ _ _  hle (hE.subC (by kernel_rfl)) hH
                  refine key _ _ _ hrr67 _ _ _  hle (hE.subC (by kernel_rfl)) hH ?_ ?_
                  · intro z66 hz a w G  hle hE hH
                    subst hz
                    rw [hQ]
                    dsimp only at h
                    refine Exit.in_eq ?_
                    refine Exit.then_normal (hK46 _ _ ?_)
                    refine wp_seq_k (fun K hK68 => ?_)
                    refine wp_region_from ?_
                    refine segO 1 [] [(6, .kv .i 0)] (Os := []) trivial hE hH (by kernel_rfl) (fun a hE => ?_)
                    refine wpFrom_end (by kernel_rfl) ?_
                    refine Exit.then_normal (hK68 _ _ ?_)
                    refine wp_ret ?_
                    cases h
                    exact ret1 rfl hE hle hH (by kernel_rfl)
                  · intro yy hz a w hp
                    subst hz
                    dsimp only at h
                    cases h
                    rw [hQ]
                    refine Exit.in_ret ?_
                    refine Exit.then_ret ?_
                    exact hp
      · replace h := ifN hc h
        have hE := hE.setB 29 (by kernel_rfl) (bf hc)
        refine segO 9 [] [(38, .kv .bool false)] (Os := []) trivial hE hH (by kernel_rfl) (fun a hE => ?_)
        refine wpFrom_end (by kernel_rfl) ?_
        refine Exit.then_normal (hK10 _ _ ?_)
        refine condF hE (by kernel_rfl) rfl ?_
        refine wp_skip ?_
        refine Exit.then_normal (hK9 _ _ ?_)
        refine wp_seq_k (fun K hK69 => ?_)
        refine wp_seq_k (fun K hK70 => ?_)
        refine wp_region_from ?_
        refine segO 1 [] [(39, .kv (.ptr 116) p0)] (Os := []) trivial hE hH (by kernel_rfl) (fun a hE => ?_)
        obtain ⟨r71, hr71, h⟩ := bs h
        refine stepCall (d := (some 40)) (f83_ok hr71) hE hH hN (by kernel_rfl) (by kernel_rfl) trivial (fun a w G hl11 hE hH => ?_)
        have hle := Gh.le_trans hle hl11
        refine segO 1 [] [(8, .kv .i r71.1)] (Os := []) trivial hE hH (by kernel_rfl) (fun a hE => ?_)
        refine wpFrom_end (by kernel_rfl) ?_
        refine Exit.then_normal (hK70 _ _ ?_)
        refine wp_seq_k (fun K hK72 => ?_)
        refine wp_region_from ?_
        refine segO 2 [] [(42, .kv .bool (r71.1 != 0))] (Os := []) trivial hE hH (by kernel_rfl) (fun a hE => ?_)
        refine wpFrom_end (by kernel_rfl) ?_
        refine Exit.then_normal (hK72 _ _ ?_)
        refine condE (b := r71.1 != 0) hE (by kernel_rfl) (fun hc => ?_) (fun hc => ?_)
        · replace h := ifT hc h
          refine wp_seq_k (fun K hK73 => ?_)
          refine wp_region_from ?_
          refine segO 2 [] [(6, .kv .i r71.1)] (Os := []) trivial hE hH (by kernel_rfl) (fun a hE => ?_)
          refine wpFrom_end (by kernel_rfl) ?_
          refine Exit.then_normal (hK73 _ _ ?_)
          refine wp_ret ?_
          refine Exit.then_ret ?_
          cases h
          exact ret1 rfl hE hle hH (by kernel_rfl)
        · replace h := ifF hc h
          refine wp_skip ?_
          refine Exit.then_normal (hK69 _ _ ?_)
          refine wp_seq_k (fun K hK74 => ?_)
          refine wp_seq_k (fun K hK75 => ?_)
          obtain ⟨i76, hi76, h⟩ := bs h
          obtain ⟨o77, ho77, h⟩ := bs h
          obtain ⟨r78, hr78, h⟩ := bs h
          obtain ⟨r79, hr79, h⟩ := bs h
          obtain ⟨q80, h⟩ := gd h
          obtain ⟨r81, hr81, h⟩ := bs h
          refine region_par 11 [5, 7, 10] [(0, 3), (0, 3), (0, 3), (0, 3), (0, 0), (0, 0), (0, 1), (1, 1), (0, 2), (2, 2), (2, 2)] [.kv (.ptr 116) p0, .kv (.ptr 116) (some i76), .fldA 116 i76 0, .kv (.ptr 105) o77.1, .kv (.ptr 116) p0, .kv .str r78, .kv .i p1, .kv .str r79, .kv .str p2, .kv .str (r79 ++ p2), .kv .str r81] (fun _ => tabs r71.2) (fun _ => Ls) (by kernel_rfl) (by kernel_rfl) hE hH
                  ⟨⟨⟨⟨⟨⟨⟨⟨⟨⟨⟨trivial,
                  anyk (fun k => obR [] (Os := []) trivial (by kernel_rfl) (by kernel_rfl))⟩,
                  anyk (fun k => obR [.pt i76] (Os := [_]) ⟨hi76, trivial⟩ (by kernel_rfl) (by kernel_rfl))⟩,
                  anyk (fun k => obR [] (Os := []) trivial (by kernel_rfl) (by kernel_rfl))⟩,
                  anyk (fun k => obR [.ob fs116 o77] (Os := [_]) ⟨(ob116 (s := r71.2) ho77), trivial⟩ (by kernel_rfl) (by kernel_rfl))⟩,
                  anyk (fun k => obR [] (Os := []) trivial (by kernel_rfl) (by kernel_rfl))⟩,
                  one (obC (k := 0) (d := (some 49)) (f88_ok hr78) rfl hN (by kernel_rfl) (by kernel_rfl) rfl trivial)⟩,
                  anyk (fun k => obR [] (Os := []) trivial (by kernel_rfl) (by kernel_rfl))⟩,
                  one (obC (k := 1) (d := (some 51)) (f90_ok hr79) rfl hN (by kernel_rfl) (by kernel_rfl) rfl trivial)⟩,
                  anyk (fun k => obR [] (Os := []) trivial (by kernel_rfl) (by kernel_rfl))⟩,
                  anyk (fun k => obR [] (Os := [_]) ⟨q80, trivial⟩ (by kernel_rfl) (by kernel_rfl))⟩,
                  one (obC (k := 2) (d := (some 54)) (f89_ok hr81) rfl hN (by kernel_rfl) (by kernel_rfl) rfl trivial)⟩ (fun a w G hl12 hE hH => ?_)
          have hle := Gh.le_trans hle hl12
          obtain ⟨r82, hr82, h⟩ := bs h
          refine stepCall (d := (some 55)) (f24_ok hr82) hE hH hN (by kernel_rfl) (by kernel_rfl) trivial (fun a w G hl13 hE hH => ?_)
          have hle := Gh.le_trans hle hl13
          refine segO 1 [] [(9, .kv .i r82.1)] (Os := []) trivial hE hH (by kernel_rfl) (fun a hE => ?_)
          refine wpFrom_end (by kernel_rfl) ?_
          refine Exit.then_normal (hK75 _ _ ?_)
          refine wp_seq_k (fun K hK83 => ?_)
          refine wp_region_from ?_
          refine segO 2 [] [(57, .kv .bool (r82.1 != 0))] (Os := []) trivial hE hH (by kernel_rfl) (fun a hE => ?_)
          refine wpFrom_end (by kernel_rfl) ?_
          refine Exit.then_normal (hK83 _ _ ?_)
          refine condE (b := r82.1 != 0) hE (by kernel_rfl) (fun hc => ?_) (fun hc => ?_)
          · replace h := ifT hc h
            refine wp_seq_k (fun K hK84 => ?_)
            refine wp_region_from ?_
            refine segO 2 [] [(6, .kv .i r82.1)] (Os := []) trivial hE hH (by kernel_rfl) (fun a hE => ?_)
            refine wpFrom_end (by kernel_rfl) ?_
            refine Exit.then_normal (hK84 _ _ ?_)
            refine wp_ret ?_
            refine Exit.then_ret ?_
            cases h
            exact ret1 rfl hE hle hH (by kernel_rfl)
          · replace h := ifF hc h
            refine wp_skip ?_
            refine Exit.then_normal (hK74 _ _ ?_)
            refine wp_seq_k (fun K hK85 => ?_)
            refine wp_seq_k (fun K hK86 => ?_)
            obtain ⟨i87, hi87, h⟩ := bs h
            obtain ⟨o88, ho88, h⟩ := bs h
            obtain ⟨r89, hr89, h⟩ := bs h
            refine region_par 6 [5] [(0, 1), (0, 1), (0, 1), (0, 1), (0, 0), (0, 0)] [.kv (.ptr 116) p0, .kv (.ptr 116) (some i87), .fldA 116 i87 0, .kv (.ptr 105) o88.1, .kv (.ptr 116) p0, .kv .str r89] (fun _ => tabs r82.2) (fun _ => Ls) (by kernel_rfl) (by kernel_rfl) hE hH
                    ⟨⟨⟨⟨⟨⟨trivial,
                    anyk (fun k => obR [] (Os := []) trivial (by kernel_rfl) (by kernel_rfl))⟩,
                    anyk (fun k => obR [.pt i87] (Os := [_]) ⟨hi87, trivial⟩ (by kernel_rfl) (by kernel_rfl))⟩,
                    anyk (fun k => obR [] (Os := []) trivial (by kernel_rfl) (by kernel_rfl))⟩,
                    anyk (fun k => obR [.ob fs116 o88] (Os := [_]) ⟨(ob116 (s := r82.2) ho88), trivial⟩ (by kernel_rfl) (by kernel_rfl))⟩,
                    anyk (fun k => obR [] (Os := []) trivial (by kernel_rfl) (by kernel_rfl))⟩,
                    one (obC (k := 0) (d := (some 64)) (f88_ok hr89) rfl hN (by kernel_rfl) (by kernel_rfl) rfl trivial)⟩ (fun a w G hl14 hE hH => ?_)
            have hle := Gh.le_trans hle hl14
            obtain ⟨r90, hr90, h⟩ := bs h
            refine stepCall (d := (some 65)) (f33_ok hr90) hE hH hN (by kernel_rfl) (by kernel_rfl) trivial (fun a w G hl15 hE hH => ?_)
            have hle := Gh.le_trans hle hl15
            refine segO 1 [] [(10, .kv .i r90.1)] (Os := []) trivial hE hH (by kernel_rfl) (fun a hE => ?_)
            refine wpFrom_end (by kernel_rfl) ?_
            refine Exit.then_normal (hK86 _ _ ?_)
            refine wp_seq_k (fun K hK91 => ?_)
            refine wp_region_from ?_
            refine segO 2 [] [(67, .kv .bool (r90.1 != 0))] (Os := []) trivial hE hH (by kernel_rfl) (fun a hE => ?_)
            refine wpFrom_end (by kernel_rfl) ?_
            refine Exit.then_normal (hK91 _ _ ?_)
            refine condE (b := r90.1 != 0) hE (by kernel_rfl) (fun hc => ?_) (fun hc => ?_)
            · replace h := ifT hc h
              refine wp_seq_k (fun K hK92 => ?_)
              refine wp_region_from ?_
              refine segO 2 [] [(6, .kv .i r90.1)] (Os := []) trivial hE hH (by kernel_rfl) (fun a hE => ?_)
              refine wpFrom_end (by kernel_rfl) ?_
              refine Exit.then_normal (hK92 _ _ ?_)
              refine wp_ret ?_
              refine Exit.then_ret ?_
              cases h
              exact ret1 rfl hE hle hH (by kernel_rfl)
            · replace h := ifF hc h
              refine wp_skip ?_
              refine Exit.then_normal (hK85 _ _ ?_)
              refine wp_seq_k (fun K hK93 => ?_)
              refine wp_seq_k (fun K hK94 => ?_)
              obtain ⟨i95, hi95, h⟩ := bs h
              obtain ⟨o96, ho96, h⟩ := bs h
              obtain ⟨r97, hr97, h⟩ := bs h
              obtain ⟨r98, hr98, h⟩ := bs h
              refine region_par 9 [5, 8] [(0, 2), (0, 2), (0, 2), (0, 2), (0, 0), (0, 0), (0, 1), (0, 1), (1, 1)] [.kv (.ptr 116) p0, .kv (.ptr 116) (some i95), .fldA 116 i95 0, .kv (.ptr 105) o96.1, .kv (.ptr 116) p0, .kv .str r97, .kv (.ptr 116) p0, .kv .i p1, .kv .str r98] (fun _ => tabs r90.2) (fun _ => Ls) (by kernel_rfl) (by kernel_rfl) hE hH
                      ⟨⟨⟨⟨⟨⟨⟨⟨⟨trivial,
                      anyk (fun k => obR [] (Os := []) trivial (by kernel_rfl) (by kernel_rfl))⟩,
                      anyk (fun k => obR [.pt i95] (Os := [_]) ⟨hi95, trivial⟩ (by kernel_rfl) (by kernel_rfl))⟩,
                      anyk (fun k => obR [] (Os := []) trivial (by kernel_rfl) (by kernel_rfl))⟩,
                      anyk (fun k => obR [.ob fs116 o96] (Os := [_]) ⟨(ob116 (s := r90.2) ho96), trivial⟩ (by kernel_rfl) (by kernel_rfl))⟩,
                      anyk (fun k => obR [] (Os := []) trivial (by kernel_rfl) (by kernel_rfl))⟩,
                      one (obC (k := 0) (d := (some 74)) (f88_ok hr97) rfl hN (by kernel_rfl) (by kernel_rfl) rfl trivial)⟩,
                      anyk (fun k => obR [] (Os := []) trivial (by kernel_rfl) (by kernel_rfl))⟩,
                      anyk (fun k => obR [] (Os := []) trivial (by kernel_rfl) (by kernel_rfl))⟩,
                      one (obC (k := 1) (d := (some 77)) (f91_ok hr98) rfl hN (by kernel_rfl) (by kernel_rfl) rfl trivial)⟩ (fun a w G hl16 hE hH => ?_)
              have hle := Gh.le_trans hle hl16
              obtain ⟨r99, hr99, h⟩ := bs h
              refine stepCall (d := (some 78)) (f36_ok hr99) hE hH hN (by kernel_rfl) (by kernel_rfl) trivial (fun a w G hl17 hE hH => ?_)
              have hle := Gh.le_trans hle hl17
              refine segO 1 [] [(11, .kv .i r99.1)] (Os := []) trivial hE hH (by kernel_rfl) (fun a hE => ?_)
              refine wpFrom_end (by kernel_rfl) ?_
              refine Exit.then_normal (hK94 _ _ ?_)
              refine wp_seq_k (fun K hK100 => ?_)
              refine wp_region_from ?_
              refine segO 2 [] [(80, .kv .bool (r99.1 != 0))] (Os := []) trivial hE hH (by kernel_rfl) (fun a hE => ?_)
              refine wpFrom_end (by kernel_rfl) ?_
              refine Exit.then_normal (hK100 _ _ ?_)
              refine condE (b := r99.1 != 0) hE (by kernel_rfl) (fun hc => ?_) (fun hc => ?_)
              · replace h := ifT hc h
                refine wp_seq_k (fun K hK101 => ?_)
                refine wp_region_from ?_
                refine segO 2 [] [(6, .kv .i r99.1)] (Os := []) trivial hE hH (by kernel_rfl) (fun a hE => ?_)
                refine wpFrom_end (by kernel_rfl) ?_
                refine Exit.then_normal (hK101 _ _ ?_)
                refine wp_ret ?_
                refine Exit.then_ret ?_
                cases h
                exact ret1 rfl hE hle hH (by kernel_rfl)
              · replace h := ifF hc h
                refine wp_skip ?_
                refine Exit.then_normal (hK93 _ _ ?_)
                refine wp_seq_k (fun K hK102 => ?_)
                refine wp_seq_k (fun K hK103 => ?_)
                refine wp_region_from ?_
                refine segO 4 [] [(84, .kv .i (IntKind.wrap .i64 ((r8.length : Int) - 1))), (85, .kv .i 0)] (Os := []) trivial hE hH (by kernel_rfl) (fun a hE => ?_)
                refine wpFrom_end (by kernel_rfl) ?_
                refine Exit.then_normal (hK103 _ _ ?_)
                refine wp_block ?_
                obtain ⟨rr123, hrr123, h⟩ := bs h
                refine loop_intro (fun Q106 c hQ hc => ?_)
                have key : ∀ (x104 : Int) (σ105 : St) (rr : Sum (Int × St) (Int × St)), f41_l1 p0 r8 x104 σ105 = some rr → ∀ (a : Act) (w : World) (G : Gh), G0.le G → EnvR G 103 a [(0, .kv (.ptr 116) p0), (6, .kv .i 0), (7, .kv (.list .i) r8), (84, .kv .i (IntKind.wrap .i64 ((r8.length : Int) - 1))), (85, .kv .i x104)] → Holds w G (tabs σ105) (Ls) → (∀ z122 : Int × St, rr = .inl z122 → ∀ (a : Act) (w : World) (G : Gh), G0.le G → EnvR G 103 a [(0, .kv (.ptr 116) p0), (6, .kv .i 0), (7, .kv (.list .i) r8), (84, .kv .i (IntKind.wrap .i64 ((r8.length : Int) - 1))), (85, .kv .i z122.1)] → Holds w G (tabs z122.2) (Ls) → Q106 (.exit 1) a w) → (∀ yy : Int × St, rr = .inr yy → ∀ (a : Act) (w : World), PostB Try.prog Try.f41 G0 (.kv .i yy.1) (tabs yy.2) Ls .ret a w → Q106 .ret a w) → Rnd Try.prog c Q106 a w := by
                  refine f41_l1.partial_correctness p0 r8 _ ?_
                  intro self ih109 x104 σ105 rr h a w G  hle hE hH hx107 hret108
                  refine rnd_step' hc ?_
                  refine wp_seq_k (fun K hK110 => ?_)
                  refine wp_region_from ?_
                  refine segO 1 [] [(86, .kv .bool (decide (x104 < (IntKind.wrap .i64 ((r8.length : Int) - 1)))))] (Os := []) trivial hE hH (by kernel_rfl) (fun a hE => ?_)
                  refine wpFrom_end (by kernel_rfl) ?_
                  refine Exit.then_normal (hK110 _ _ ?_)
                  refine wp_seq_k (fun K hK111 => ?_)
                  refine condE (b := decide (x104 < (IntKind.wrap .i64 ((r8.length : Int) - 1)))) hE (by kernel_rfl) (fun hc => ?_) (fun hc => ?_)
                  · replace h := ifT hc h
                    refine wp_skip ?_
                    refine Exit.then_normal (hK111 _ _ ?_)
                    refine wp_seq_k (fun K hK112 => ?_)
                    refine wp_block ?_
                    refine wp_seq_k (fun K hK113 => ?_)
                    refine wp_region_from ?_
                    refine segO 2 [] [(12, .kv .i x104)] (Os := []) trivial hE hH (by kernel_rfl) (fun a hE => ?_)
                    refine wpFrom_end (by kernel_rfl) ?_
                    refine Exit.then_normal (hK113 _ _ ?_)
                    refine wp_seq_k (fun K hK114 => ?_)
                    obtain ⟨i115, hi115, h⟩ := bs h
                    obtain ⟨o116, ho116, h⟩ := bs h
                    obtain ⟨x117, hx117, h⟩ := bs h
                    obtain ⟨r118, hr118, h⟩ := bs h
                    refine region_par 10 [9] [(0, 1), (0, 1), (0, 1), (0, 1), (0, 0), (0, 0), (0, 0), (0, 0), (0, 0), (0, 0)] [.kv (.ptr 116) p0, .kv (.ptr 116) (some i115), .fldA 116 i115 0, .kv (.ptr 105) o116.1, .kv (.ptr 116) p0, .kv (.list .i) r8, .kv .i x104, .elA .i x117 0, .kv .i x117, .kv .str r118] (fun _ => tabs σ105) (fun _ => Ls) (by kernel_rfl) (by kernel_rfl) hE hH
                            ⟨⟨⟨⟨⟨⟨⟨⟨⟨⟨trivial,
                            anyk (fun k => obR [] (Os := []) trivial (by kernel_rfl) (by kernel_rfl))⟩,
                            anyk (fun k => obR [.pt i115] (Os := [_]) ⟨hi115, trivial⟩ (by kernel_rfl) (by kernel_rfl))⟩,
                            anyk (fun k => obR [] (Os := []) trivial (by kernel_rfl) (by kernel_rfl))⟩,
                            anyk (fun k => obR [.ob fs116 o116] (Os := [_]) ⟨(ob116 (s := σ105) ho116), trivial⟩ (by kernel_rfl) (by kernel_rfl))⟩,
                            anyk (fun k => obR [] (Os := []) trivial (by kernel_rfl) (by kernel_rfl))⟩,
                            anyk (fun k => obR [] (Os := []) trivial (by kernel_rfl) (by kernel_rfl))⟩,
                            anyk (fun k => obR [] (Os := []) trivial (by kernel_rfl) (by kernel_rfl))⟩,
                            anyk (fun k => obR [.ix .i x117] (Os := [_]) ⟨(IxAt.of (k := .i) hx117), trivial⟩ (by kernel_rfl) (by kernel_rfl))⟩,
                            anyk (fun k => obR [] (Os := []) trivial (by kernel_rfl) (by kernel_rfl))⟩,
                            one (obC (k := 0) (d := (some 97)) (f91_ok hr118) rfl hN (by kernel_rfl) (by kernel_rfl) rfl trivial)⟩ (fun a w G hl18 hE hH => ?_)
                    have hle := Gh.le_trans hle hl18
                    obtain ⟨r119, hr119, h⟩ := bs h
                    refine stepCall (d := (some 98)) (f37_ok hr119) hE hH hN (by kernel_rfl) (by kernel_rfl) trivial (fun a w G hl19 hE hH => ?_)
                    have hle := Gh.le_trans hle hl19
                    refine segO 1 [] [(13, .kv .i r119.1)] (Os := []) trivial hE hH (by kernel_rfl) (fun a hE => ?_)
                    refine wpFrom_end (by kernel_rfl) ?_
                    refine Exit.then_normal (hK114 _ _ ?_)
                    refine wp_seq_k (fun K hK120 => ?_)
                    refine wp_region_from ?_
                    refine segO 2 [] [(100, .kv .bool (r119.1 != 0))] (Os := []) trivial hE hH (by kernel_rfl) (fun a hE => ?_)
                    refine wpFrom_end (by kernel_rfl) ?_
                    refine Exit.then_normal (hK120 _ _ ?_)
                    refine condE (b := r119.1 != 0) hE (by kernel_rfl) (fun hc => ?_) (fun hc => ?_)
                    · replace h := ifT hc h
                      refine wp_seq_k (fun K hK121 => ?_)
                      refine wp_region_from ?_
                      refine segO 2 [] [(6, .kv .i r119.1)] (Os := []) trivial hE hH (by kernel_rfl) (fun a hE => ?_)
                      refine wpFrom_end (by kernel_rfl) ?_
                      refine Exit.then_normal (hK121 _ _ ?_)
                      refine wp_ret ?_
                      refine Exit.in_ret ?_
                      refine Exit.then_ret ?_
                      refine Exit.then_ret ?_
                      cases h
                      exact hret108 _ rfl _ _ (ret1 rfl hE hle hH (by kernel_rfl))
                    · replace h := ifF hc h
                      refine wp_skip ?_
                      refine Exit.in_normal ?_
                      refine Exit.then_normal (hK112 _ _ ?_)
                      refine wp_region_from ?_
                      refine segO 2 [] [(85, .kv .i (IntKind.wrap .i64 (x104 + 1)))] (Os := []) trivial hE hH (by kernel_rfl) (fun a hE => ?_)
                      refine wpFrom_end (by kernel_rfl) ?_
                      refine Exit.then_normal ?_
                      exact ih109 _ _ _ h _ _ _  hle (hE.subC (by kernel_rfl)) hH hx107 hret108
                  · replace h := ifF hc h
                    refine wp_exit ?_
                    refine Exit.then_exit ?_
                    refine Exit.then_exit ?_
                    cases h
                    exact hx107 _ rfl _ _ _  hle (hE.subC (by kernel_rfl)) hH
                refine key _ _ _ hrr123 _ _ _  hle (hE.subC (by kernel_rfl)) hH ?_ ?_
                · intro z122 hz a w G  hle hE hH
                  subst hz
                  rw [hQ]
                  dsimp only at h
                  refine Exit.in_eq ?_
                  refine Exit.then_normal (hK102 _ _ ?_)
                  refine wp_seq_k (fun K hK124 => ?_)
                  refine wp_region_from ?_
                  refine segO 1 [] [(6, .kv .i 0)] (Os := []) trivial hE hH (by kernel_rfl) (fun a hE => ?_)
                  refine wpFrom_end (by kernel_rfl) ?_
                  refine Exit.then_normal (hK124 _ _ ?_)
                  refine wp_ret ?_
                  cases h
                  exact ret1 rfl hE hle hH (by kernel_rfl)
                · intro yy hz a w hp
                  subst hz
                  dsimp only at h
                  cases h
                  rw [hQ]
                  refine Exit.in_ret ?_
                  refine Exit.then_ret ?_
                  exact hp

def f43 (p0 : Option Nat) (σ : St) : Option (Int × (List UInt8) × Int) :=
  if p0.isNone = true then
  some (0, [], 1)
  else
  p0 >>= fun i6 =>
  (σ.t116[i6]?) >>= fun o7 =>
  f31 o7.1 σ >>= fun r8 =>
  if r8 = true then
  some (0, [], 11)
  else
  f40 p0 σ >>= fun r11 =>
  if ((r11.length : Int) == 0) = true then
  some (0, [], 8)
  else
  (ix r11 (IntKind.wrap .i64 ((r11.length : Int) - 1))) >>= fun x16 =>
  f86 p0 x16 σ >>= fun r18 =>
  some (x16, r18.1, 0)

theorem f43_ok {p0 : Option Nat} {σ : St} {p : Int × (List UInt8) × Int} (h : f43 p0 σ = some p) : Spec Try.prog 43 [.kv (.ptr 116) p0] (tabs σ) (.tup [⟨.i, p.1⟩, ⟨.str, p.2.1⟩, ⟨.i, p.2.2⟩]) (tabs σ) := by
  refine Spec.intro Try.func43 (by kernel_rfl) rfl (by kernel_rfl) (fun a w G0 Ls hE hH hN => ?_)
  have hle : G0.le G0 := Gh.le_refl G0
  unfold f43 at h
  refine wp_seq_k (fun K hK1 => ?_)
  refine wp_region_from ?_
  refine segO 3 [] [(2, .kv .i 0), (3, .kv .str []), (4, .kv .i 0)] (Os := []) trivial hE hH (by kernel_rfl) (fun a hE => ?_)
  refine wpFrom_end (by kernel_rfl) ?_
  refine Exit.then_normal (hK1 _ _ ?_)
  refine wp_seq_k (fun K hK2 => ?_)
  refine wp_block ?_
  refine wp_seq_k (fun K hK3 => ?_)
  refine wp_region_from ?_
  refine segO 3 [] [(9, .kv .bool p0.isNone)] (Os := []) trivial hE hH (by kernel_rfl) (fun a hE => ?_)
  refine wpFrom_end (by kernel_rfl) ?_
  refine Exit.then_normal (hK3 _ _ ?_)
  refine condE (b := p0.isNone) hE (by kernel_rfl) (fun hc => ?_) (fun hc => ?_)
  · replace h := ifT hc h
    refine wp_seq_k (fun K hK4 => ?_)
    refine wp_region_from ?_
    refine segO 3 [] [(2, .kv .i 0), (3, .kv .str []), (4, .kv .i 1)] (Os := []) trivial hE hH (by kernel_rfl) (fun a hE => ?_)
    refine wpFrom_end (by kernel_rfl) ?_
    refine Exit.then_normal (hK4 _ _ ?_)
    refine wp_ret ?_
    refine Exit.in_ret ?_
    refine Exit.then_ret ?_
    cases h
    exact ret3 rfl hE hle hH (by kernel_rfl)
  · replace h := ifF hc h
    refine wp_seq_k (fun K hK5 => ?_)
    refine wp_region_from ?_
    obtain ⟨i6, hi6, h⟩ := bs h
    obtain ⟨o7, ho7, h⟩ := bs h
    refine segO 4 [.pt i6, .ob fs116 o7] [(16, .kv (.ptr 105) o7.1)] (Os := [_, _]) ⟨hi6, (ob116 (s := σ) ho7), trivial⟩ hE hH (by kernel_rfl) (fun a hE => ?_)
    obtain ⟨r8, hr8, h⟩ := bs h
    refine stepCall (d := (some 17)) (f31_ok hr8) hE hH hN (by kernel_rfl) (by kernel_rfl) trivial (fun a w G hl1 hE hH => ?_)
    have hle := Gh.le_trans hle hl1
    refine segO 1 [] [(12, .kv .bool r8)] (Os := []) trivial hE hH (by kernel_rfl) (fun a hE => ?_)
    refine wpFrom_end (by kernel_rfl) ?_
    refine Exit.then_normal (hK5 _ _ ?_)
    refine condE (b := r8) hE (by kernel_rfl) (fun hc => ?_) (fun hc => ?_)
    · replace h := ifT hc h
      refine wp_seq_k (fun K hK9 => ?_)
      refine wp_region_from ?_
      refine segO 3 [] [(2, .kv .i 0), (3, .kv .str []), (4, .kv .i 11)] (Os := []) trivial hE hH (by kernel_rfl) (fun a hE => ?_)
      refine wpFrom_end (by kernel_rfl) ?_
      refine Exit.then_normal (hK9 _ _ ?_)
      refine wp_ret ?_
      refine Exit.in_ret ?_
      refine Exit.then_ret ?_
      cases h
      exact ret3 rfl hE hle hH (by kernel_rfl)
    · replace h := ifF hc h
      refine wp_skip ?_
      refine Exit.in_normal ?_
      refine Exit.then_normal (hK2 _ _ ?_)
      refine wp_seq_k (fun K hK10 => ?_)
      refine wp_region_from ?_
      refine segO 1 [] [(18, .kv (.ptr 116) p0)] (Os := []) trivial hE hH (by kernel_rfl) (fun a hE => ?_)
      obtain ⟨r11, hr11, h⟩ := bs h
      refine stepCall (d := (some 19)) (f40_ok hr11) hE hH hN (by kernel_rfl) (by kernel_rfl) trivial (fun a w G hl2 hE hH => ?_)
      have hle := Gh.le_trans hle hl2
      refine segO 1 [] [(5, .kv (.list .i) r11)] (Os := []) trivial hE hH (by kernel_rfl) (fun a hE => ?_)
      refine wpFrom_end (by kernel_rfl) ?_
      refine Exit.then_normal (hK10 _ _ ?_)
      refine wp_seq_k (fun K hK12 => ?_)
      refine wp_seq_k (fun K hK13 => ?_)
      refine wp_region_from ?_
      refine segO 3 [] [(22, .kv .bool ((r11.length : Int) == 0))] (Os := []) trivial hE hH (by kernel_rfl) (fun a hE => ?_)
      refine wpFrom_end (by kernel_rfl) ?_
      refine Exit.then_normal (hK13 _ _ ?_)
      refine condE (b := (r11.length : Int) == 0) hE (by kernel_rfl) (fun hc => ?_) (fun hc => ?_)
      · replace h := ifT hc h
        refine wp_seq_k (fun K hK14 => ?_)
        refine wp_region_from ?_
        refine segO 3 [] [(2, .kv .i 0), (3, .kv .str []), (4, .kv .i 8)] (Os := []) trivial hE hH (by kernel_rfl) (fun a hE => ?_)
        refine wpFrom_end (by kernel_rfl) ?_
        refine Exit.then_normal (hK14 _ _ ?_)
        refine wp_ret ?_
        refine Exit.then_ret ?_
        cases h
        exact ret3 rfl hE hle hH (by kernel_rfl)
      · replace h := ifF hc h
        refine wp_skip ?_
        refine Exit.then_normal (hK12 _ _ ?_)
        refine wp_seq_k (fun K hK15 => ?_)
        refine wp_region_from ?_
        obtain ⟨x16, hx16, h⟩ := bs h
        refine segO 7 [.ix .i x16] [(6, .kv .i x16)] (Os := [_]) ⟨(IxAt.of (k := .i) hx16), trivial⟩ hE hH (by kernel_rfl) (fun a hE => ?_)
        refine wpFrom_end (by kernel_rfl) ?_
        refine Exit.then_normal (hK15 _ _ ?_)
        refine wp_seq_k (fun K hK17 => ?_)
        refine wp_region_from ?_
        refine segO 2 [] [(30, .kv (.ptr 116) p0), (31, .kv .i x16)] (Os := []) trivial hE hH (by kernel_rfl) (fun a hE => ?_)
        obtain ⟨r18, hr18, h⟩ := bs h
        refine stepCall (d := (some 32)) (f86_ok hr18) hE hH hN (by kernel_rfl) (by kernel_rfl) trivial (fun a w G hl3 hE hH => ?_)
        have hle := Gh.le_trans hle hl3
        refine segO 5 [] [(7, .kv .str r18.1)] (Os := []) trivial hE hH (by kernel_rfl) (fun a hE => ?_)
        refine wpFrom_end (by kernel_rfl) ?_
        refine Exit.then_normal (hK17 _ _ ?_)
        refine wp_seq_k (fun K hK19 => ?_)
        refine wp_region_from ?_
        refine segO 5 [] [(2, .kv .i x16), (3, .kv .str r18.1), (4, .kv .i 0)] (Os := []) trivial hE hH (by kernel_rfl) (fun a hE => ?_)
        refine wpFrom_end (by kernel_rfl) ?_
        refine Exit.then_normal (hK19 _ _ ?_)
        refine wp_ret ?_
        cases h
        exact ret3 rfl hE hle hH (by kernel_rfl)
end Go.Proofs.Ytlfemhkabjafeaa.M

/- Plain law of the keeper, part 2: what a keeper reads. -/
set_option linter.unusedVariables false
set_option linter.unusedSimpArgs false
namespace Go.Proofs.Ytlfemhkabjafeaa.M

/-- The keeper at a place is one on that disk. -/
abbrev KP (σ : St) (k d : Nat) : Prop := σ.t116[k]? = some (some d, nmA, ())

section
variable {σ : St} {k d n0 : Nat} {A : AD}

theorem KP.fr {σ' : St} (h : KP σ k d) (hf : Fr σ σ' d n0) : KP σ' k d := by
  have e : σ'.t116 = σ.t116 := congrArg (·.1) hf.oth
  unfold KP; rw [e]; exact h

theorem f88_eq (h : KP σ k d) : f88 (some k) σ = some newN := by
  unfold f88
  simp [h]

theorem f91_eq (h : KP σ k d) {n : Nat} (hn : n ≤ 1099511627776) : f91 (some k) (n : Int) σ = some (fileN n) := by
  unfold f91
  have hl := dig_len13 hn
  simp only [h, f107_eq n (by omega), Option.bind_eq_bind, Option.bind_some]
  rw [if_pos (by decide), if_pos (by simp; omega)]
  rfl

/-! ### A state -/
/-- The state that a file's bytes are, under a number. -/
def stateF (n : Nat) (c : List UInt8) : Option (List UInt8) := match openS c with
  | none => none
  | some t => if (numB n).length ≤ t.length ∧ t.take (numB n).length = numB n then some (t.drop (numB n).length) else none

theorem stateF_seal (n : Nat) (s : List UInt8) : stateF n (sealS (numB n ++ s)) = some s := by
  unfold stateF
  rw [openS_seal]
  simp

theorem stateF_some {n : Nat} {c s : List UInt8} (h : stateF n c = some s) : c = sealS (numB n ++ s) := by
  unfold stateF at h
  split at h
  · cases h
  · rename_i t ht
    split at h
    · rename_i hc
      simp only [Option.some.injEq] at h
      rw [openS_some ht, ← h]
      congr 1
      have := List.take_append_drop (numB n).length t
      rw [hc.2] at this
      exact this.symm
    · cases h

/-- The state under a number. -/
def stA (A : AD) (n : Nat) : Option (List UInt8) := if (readA A (fileN n)).2 ≠ 0 then none else stateF n (readA A (fileN n)).1

theorem readA_len (hA : OkA A) (s : List UInt8) : (readA A s).1.length ≤ 65536 := by
  unfold readA
  split
  · simp
  · split
    · simp
    · rename_i f hf
      have := hA.each f (findL_some hf).1
      unfold fsize at this
      simp only [List.length_append]; omega

theorem f86_eq (h : KP σ k d) (hD : DV σ d n0 A) (hA : OkA A) {n : Nat} (hn : n ≤ 1099511627776) : f86 (some k) (n : Int) σ = some (match stA A n with | some s => (s, true) | none => ([], false)) := by
  obtain ⟨o, qs, hq⟩ := hD
  unfold f86
  have e1 := f28_eq hq hA (fileN n)
  have hl := readA_len hA (fileN n)
  obtain ⟨e2, e3⟩ := f90_eq hn
  simp only [h, f91_eq h hn, e1, Option.bind_eq_bind, Option.bind_some]
  unfold stA
  by_cases c : (readA A (fileN n)).2 = 0
  · rw [if_neg (by simpa using c), if_neg (by simpa using c)]
    unfold stateF
    rcases f108_eq (s := (readA A (fileN n)).1) (by omega) with ⟨t, h1, h2⟩ | ⟨h1, e, h2, h3⟩
    · rw [h1, h2, e2]
      have ht := openS_some h1
      simp only [Option.bind_some]
      by_cases c2 : t.length < (numB n).length
      · rw [if_pos (by simp; omega)]
        rw [if_neg (by omega)]
      · rw [if_neg (by simp; omega), if_pos (by omega)]
        have e4 : Int.toNat (((numB n).length : Nat) : Int) = (numB n).length := by omega
        rw [e4]
        by_cases c3 : t.take (numB n).length = numB n
        · rw [if_neg (by simp [c3]), if_pos (by omega), if_pos ⟨by omega, c3⟩]
        · rw [if_pos (by simpa using c3), if_neg (fun hh => c3 hh.2)]
    · rw [h1, h3, e2]
      simp only [Option.bind_some]
      rw [if_pos (by simp [h2])]
  · rw [if_pos (by simpa using c), if_pos c]

/-! ### All states -/
def nameNo (x : List UInt8) : Option Nat := if 4 < x.length ∧ x.take 4 = [97, 108, 108, 46] then (f85 (x.drop 4)) >>= fun v => if v < 0 then none else some v.toNat else none

theorem nameNo_file {n : Nat} (hn : n ≤ 1099511627776) : nameNo (fileN n) = some n := by
  unfold nameNo
  have hp := dig_pos n
  have e1 : (fileN n).drop 4 = dig n := rfl
  have e2 : (fileN n).take 4 = [97, 108, 108, 46] := rfl
  have e3 : (fileN n).length = (dig n).length + 4 := rfl
  rw [if_pos ⟨by omega, e2⟩, e1, f85_dig hn]
  simp only [Option.bind_eq_bind, Option.bind_some]
  rw [if_neg (by omega)]
  simp

theorem nameNo_some {x : List UInt8} {n : Nat} (hx : x.length < 9223372036854775808) (h : nameNo x = some n) : x = fileN n ∧ n ≤ 1099511627776 := by
  unfold nameNo at h
  split at h
  · rename_i hc
    rcases f85_spec (s := x.drop 4) (by rw [List.length_drop]; omega) with ⟨h1, _⟩ | ⟨m, h1, h2, h3⟩
    · rw [h1] at h; simp at h
    · rw [h3] at h
      simp only [Option.bind_eq_bind, Option.bind_some] at h
      rw [if_neg (by omega)] at h
      have hm : m = n := by simpa using h
      subst hm
      refine ⟨?_, h1⟩
      have := List.take_append_drop 4 x
      rw [hc.2, h2] at this
      exact this.symm
  · cases h

def numOf (A : AD) (x : List UInt8) : Option Nat := nameNo x >>= fun n => if (stA A n).isSome then some n else none

theorem f40_loop (h : KP σ k d) (hD : DV σ d n0 A) (hA : OkA A) (names : List (List UInt8)) (hN : ∀ x ∈ names, x.length < 9223372036854775808) (hl : names.length ≤ 128) : ∀ (m i : Nat) (acc : List Int), i + m = names.length → acc.length ≤ i →
    f40_l0 (some k) σ names acc (i : Int) = some (acc ++ ((names.drop i).filterMap (numOf A)).map Int.ofNat, (names.length : Int))
  | 0, i, acc, hi, ha => by
    rw [f40_l0]
    have : i = names.length := by omega
    subst this
    simp
  | m + 1, i, acc, hi, ha => by
    rw [f40_l0]
    have hn : i < names.length := by omega
    have hw : IntKind.wrap .i64 ((i : Int) + 1) = ((i + 1 : Nat) : Int) := by rw [wrap_id (by omega) (by omega)]; omega
    have hd : names.drop i = names[i] :: names.drop (i + 1) := by simp
    have h1 : ((i : Int) < (names.length : Int)) := by omega
    have hx := hN names[i] (List.getElem_mem hn)
    have e4 : IntKind.wrap .i64 (((nmA.length : Nat) : Int) + 1) = 4 := by decide
    simp only [h1, decide_true, if_true, ix_at hn, Option.bind_eq_bind, Option.bind_some, h, e4, hw]
    rw [hd, List.filterMap_cons]
    have t4 : Int.toNat 4 = 4 := rfl
    by_cases c1 : 4 < names[i].length
    · rw [if_pos (by simp; omega), if_pos (by omega)]
      simp only [t4]
      rw [if_pos (by decide)]
      have e5 : nmA ++ [46] = ([97, 108, 108, 46] : List UInt8) := rfl
      rw [e5]
      by_cases c2 : names[i].take 4 = [97, 108, 108, 46]
      · rw [if_pos (by simpa using c2), if_pos (by omega)]
        unfold f84x
        rcases f85_spec (s := names[i].drop 4) (by rw [List.length_drop]; omega) with ⟨h3, _⟩ | ⟨v, h2, h3, h4⟩
        · have e6 : numOf A names[i] = none := by
            unfold numOf nameNo
            rw [if_pos ⟨c1, c2⟩, h3]; rfl
          rw [h3, e6]
          simp only [Option.bind_eq_bind, Option.bind_some]
          rw [if_pos (by decide)]
          simp only [Option.bind_some]
          exact f40_loop h hD hA names hN hl m (i + 1) acc (by omega) (by omega)
        · have e6 : nameNo names[i] = some v := by
            unfold nameNo
            rw [if_pos ⟨c1, c2⟩, h4]
            simp only [Option.bind_eq_bind, Option.bind_some]
            rw [if_neg (by omega)]; simp
          rw [h4]
          simp only [Option.bind_eq_bind, Option.bind_some]
          rw [if_neg (by simp), f86_eq h hD hA h2]
          simp only [Option.bind_some]
          cases hs : stA A v with
          | none =>
            have e7 : numOf A names[i] = none := by unfold numOf; rw [e6]; simp [hs]
            rw [e7]
            simp only [Bool.false_eq_true, if_false, Option.bind_some]
            exact f40_loop h hD hA names hN hl m (i + 1) acc (by omega) (by omega)
          | some s =>
            have e7 : numOf A names[i] = some v := by unfold numOf; rw [e6]; simp [hs]
            rw [e7]
            simp only [if_true]
            rw [if_pos (by omega)]
            simp only [Option.bind_some]
            rw [f40_loop h hD hA names hN hl m (i + 1) (acc ++ [(v : Int)]) (by omega) (by simp; omega)]
            simp
      · rw [if_neg (by simpa using c2)]
        have e6 : numOf A names[i] = none := by
          unfold numOf nameNo
          rw [if_neg (fun hh => c2 hh.2)]; rfl
        rw [e6]
        exact f40_loop h hD hA names hN hl m (i + 1) acc (by omega) (by omega)
    · rw [if_neg (by simp; omega)]
      have e6 : numOf A names[i] = none := by
        unfold numOf nameNo
        rw [if_neg (fun hh => c1 hh.1)]; rfl
      rw [e6]
      exact f40_loop h hD hA names hN hl m (i + 1) acc (by omega) (by omega)

/-- The numbers of all states. -/
def allA (A : AD) : List Int := if A.2.2.2.1 = true then [] else sortedI (((A.2.1.map (·.1)).filterMap (numOf A)).map Int.ofNat)

theorem f40_eq (h : KP σ k d) (hD : DV σ d n0 A) (hA : OkA A) (hN : ∀ f ∈ A.2.1, f.1.length < 9223372036854775808) : f40 (some k) σ = some (allA A) := by
  have hD' := hD
  obtain ⟨o, qs, hq⟩ := hD
  have hf := hA.files
  unfold f40 allA
  simp only [h, f31_eq hq, Option.isNone_some, Bool.false_eq_true, if_false, Option.bind_eq_bind, Option.bind_some]
  cases hd : A.2.2.2.1 with
  | true => simp
  | false =>
    simp only [Bool.false_eq_true, if_false]
    rw [f21_eq hq hA]
    simp only [Option.bind_some]
    have e := f40_loop h hD' hA (A.2.1.map (·.1)) (fun x hx => by obtain ⟨f, hf, rfl⟩ := List.mem_map.1 hx; exact hN f hf) (by simpa using hf) (A.2.1.map (·.1)).length 0 [] (by omega) (by simp)
    rw [show (((0 : Nat) : Int)) = (0 : Int) from rfl] at e
    rw [e]
    simp only [Option.bind_some, List.nil_append, List.drop_zero]
    have h1 : (((A.2.1.map (·.1)).filterMap (numOf A)).map Int.ofNat).length ≤ 128 := by
      rw [List.length_map]
      refine Nat.le_trans (List.length_filterMap_le _ _) ?_
      simpa using hf
    rw [if_pos (by omega)]
end
end Go.Proofs.Ytlfemhkabjafeaa.M

/- Plain law: what a write on a disk comes to. -/
set_option linter.unusedVariables false
set_option linter.unusedSimpArgs false
namespace Go.Proofs.Ytlfemhkabjafeaa.M

theorem dropL_self {s : List UInt8} {L : List FR} (h : ∀ f ∈ L, f.1 ≠ s) : dropL s L = L := by
  rw [dropL_eq, List.filter_eq_self]
  intro f hf; simpa using h f hf

theorem dropL_append (s : List UInt8) (L L' : List FR) : dropL s (L ++ L') = dropL s L ++ dropL s L' := by
  rw [dropL_eq, dropL_eq, dropL_eq, List.filter_append]

theorem dropL_all {s : List UInt8} {L : List FR} (h : ∀ f ∈ L, f.1 = s) : dropL s L = [] := by
  rw [dropL_eq, List.filter_eq_nil_iff]
  intro f hf; simpa using h f hf

/-! ### A write -/
theorem write_cases {A : AD} (hA : OkA A) (hd : A.2.2.2.1 = false) (k : AD → AD) : ∃ B : AD, B.1 = A.1 ∧ B.2.1 = A.2.1 ∧ OkA B ∧ (A.2.2.1 = 0 → B.2.2.1 = 0) ∧
    ((B.2.2.2.1 = false ∧ writeA A k = (0, k B)) ∨ (B.2.2.2.1 = true ∧ A.2.2.1 ≠ 0 ∧ writeA A k = (11, B))) := by
  refine ⟨(goesA A).2, (goesA_L A).2, (goesA_L A).1, hA.goes, ?_, ?_⟩
  · intro h
    unfold goesA
    rw [if_pos h]; exact h
  · unfold writeA goesA
    by_cases h : A.2.2.1 = 0
    · rw [if_pos h]
      exact .inl ⟨hd, by simp⟩
    · rw [if_neg h]
      by_cases h1 : A.2.2.1 = 1
      · exact .inr ⟨by simp [h1], h, by simp [h1]⟩
      · have e : ((A.2.2.1 == 1) : Bool) = false := by simpa using h1
        exact .inl ⟨by simp [e], by simp [e]⟩

/-- Is the disk down? -/
abbrev downA (A : AD) : Bool := A.2.2.2.1
abbrev armA0 (A : AD) : Int := A.2.2.1

/-! ### A name taken away -/
theorem remove_cases {A : AD} (hA : OkA A) (hd : downA A = false) {s : List UInt8} {f : FR} (hf : findL s A.2.1 = some f) : ∃ B : AD, B.1 = A.1 ∧ OkA B ∧ (armA0 A = 0 → armA0 B = 0) ∧
    ((downA B = false ∧ B.2.1 = dropL s A.2.1 ∧ removeA A s = (0, B)) ∨ (downA B = true ∧ B.2.1 = A.2.1 ∧ armA0 A ≠ 0 ∧ removeA A s = (11, B))) := by
  obtain ⟨C, h1, h2, h3, h4, h5⟩ := write_cases hA hd (fun B => putA B (dropL s B.2.1))
  have e : removeA A s = writeA A (fun B => putA B (dropL s B.2.1)) := by
    unfold removeA someA
    rw [if_neg (by rw [show A.2.2.2.1 = false from hd]; decide), hf]
  rcases h5 with ⟨h5, h6⟩ | ⟨h5, h6, h7⟩
  · exact ⟨putA C (dropL s C.2.1), h1, h3.dropped s, h4, .inl ⟨h5, by show dropL s C.2.1 = _; rw [h2], by rw [e, h6]⟩⟩
  · exact ⟨C, h1, h3, h4, .inr ⟨h5, h2, h6, by rw [e, h7]⟩⟩

end Go.Proofs.Ytlfemhkabjafeaa.M

/- Plain law of the keeper, part 3: the files of a keeper, and what each call of the disk makes of them. -/
set_option linter.unusedVariables false
set_option linter.unusedSimpArgs false
namespace Go.Proofs.Ytlfemhkabjafeaa.M

/-- A state: its number, its bytes. -/
abbrev SP : Type := Nat × List UInt8
/-- A state's bytes on the disk. -/
def cell (p : SP) : List UInt8 := sealS (numB p.1 ++ p.2)
/-- A state's file. -/
def mkF (p : SP) : FR := (fileN p.1, cell p, [], ())

/-- The files are these states, by rising numbers, and what lies under the new name. -/
structure SLs (m : Nat) (L : List FR) (ps : List SP) (junk : List FR) : Prop where
  perm : L.Perm (ps.map mkF ++ junk)
  junkN : ∀ f ∈ junk, f.1 = newN
  rise : ps.Pairwise (fun p q => p.1 < q.1)
  each : ∀ p ∈ ps, p.1 ≤ 1099511627776 ∧ p.2.length ≤ m

theorem cell_len {p : SP} {m : Nat} (h : p.1 ≤ 1099511627776 ∧ p.2.length ≤ m) : (cell p).length ≤ m + 14 := by
  unfold cell
  have := (f90_eq h.1).2
  rw [sealS_len, List.length_append]; omega

section
variable {m : Nat} {L : List FR} {ps : List SP} {junk : List FR} {p : SP}

theorem SLs.find (h : SLs m L ps junk) (hs : SortL L) (hp : p ∈ ps) : findL (fileN p.1) L = some (mkF p) :=
  findL_of hs (h.perm.mem_iff.2 (List.mem_append.2 (.inl (List.mem_map.2 ⟨p, hp, rfl⟩)))) rfl

theorem SLs.findNo (h : SLs m L ps junk) {n : Nat} (hn : ∀ p ∈ ps, p.1 ≠ n) : findL (fileN n) L = none := by
  refine findL_no (fun f hf => ?_)
  rcases List.mem_append.1 (h.perm.mem_iff.1 hf) with hf | hf
  · obtain ⟨p, hp, rfl⟩ := List.mem_map.1 hf
    exact fun e => hn p hp (fileN_inj e)
  · rw [h.junkN f hf]; exact fun e => newN_not n e.symm

theorem SLs.findNew (h : SLs m L ps []) : findL newN L = none := by
  refine findL_no (fun f hf => ?_)
  have hf := h.perm.mem_iff.1 hf
  rw [List.append_nil] at hf
  obtain ⟨p, hp, rfl⟩ := List.mem_map.1 hf
  exact newN_not _

theorem SLs.findNew1 {f : FR} (h : SLs m L ps [f]) (hs : SortL L) : findL newN L = some f :=
  findL_of hs (h.perm.mem_iff.2 (List.mem_append.2 (.inr List.mem_cons_self))) (h.junkN f List.mem_cons_self)

theorem mkF_new : ∀ f ∈ ps.map mkF, f.1 ≠ newN := by
  intro f hf
  obtain ⟨p, _, rfl⟩ := List.mem_map.1 hf
  exact newN_not _

theorem SLs.clear (h : SLs m L ps junk) : SLs m (dropL newN L) ps [] := by
  refine ⟨?_, by simp, h.rise, h.each⟩
  refine (dropL_congr h.perm).trans ?_
  rw [dropL_append, dropL_self mkF_new, dropL_all h.junkN]

theorem SLs.noJunk (h : SLs m L ps junk) (hf : findL newN L = none) : junk = [] := by
  cases junk with
  | nil => rfl
  | cons f r => exact absurd (h.junkN f List.mem_cons_self) (findL_none hf f (h.perm.mem_iff.2 (List.mem_append.2 (.inr List.mem_cons_self))))

theorem SLs.put (h : SLs m L ps junk) {f : FR} (hf : f.1 = newN) : SLs m (setL f false L) ps [f] := by
  refine ⟨?_, fun g hg => by simp only [List.mem_cons, List.not_mem_nil, or_false] at hg; rw [hg]; exact hf, h.rise, h.each⟩
  refine (setL_perm f L).trans ?_
  rw [hf]
  refine (List.Perm.cons f h.clear.perm).trans ?_
  rw [List.append_nil]
  exact (List.perm_append_comm (l₁ := [f])).trans (List.Perm.refl _)

theorem SLs.rename (h : SLs m L ps junk) (hp : ∀ q ∈ ps, q.1 < p.1) (he : p.1 ≤ 1099511627776 ∧ p.2.length ≤ m) : SLs m (setL (mkF p) false (dropL newN L)) (ps ++ [p]) [] := by
  refine ⟨?_, by simp, ?_, ?_⟩
  · refine (setL_perm _ _).trans ?_
    have e : dropL (mkF p).1 (dropL newN L) = dropL newN L := by
      refine dropL_none ?_
      exact h.clear.findNo (fun q hq => Nat.ne_of_lt (hp q hq))
    rw [e]
    refine (List.Perm.cons _ h.clear.perm).trans ?_
    rw [List.append_nil, List.append_nil, List.map_append]
    exact (List.perm_append_comm (l₁ := [mkF p])).trans (List.Perm.refl _)
  · rw [List.pairwise_append]
    refine ⟨h.rise, List.pairwise_singleton _ _, fun a ha b hb => ?_⟩
    simp only [List.mem_cons, List.not_mem_nil, or_false] at hb
    rw [hb]; exact hp a ha
  · intro q hq
    rcases List.mem_append.1 hq with hq | hq
    · exact h.each q hq
    · simp only [List.mem_cons, List.not_mem_nil, or_false] at hq
      rw [hq]; exact he

theorem SLs.tail (h : SLs m L (p :: ps) junk) : SLs m (dropL (fileN p.1) L) ps junk := by
  have hr := List.pairwise_cons.1 h.rise
  refine ⟨?_, h.junkN, hr.2, fun q hq => h.each q (List.mem_cons_of_mem _ hq)⟩
  refine (dropL_congr h.perm).trans ?_
  rw [dropL_append, List.map_cons]
  have e1 : dropL (fileN p.1) (mkF p :: ps.map mkF) = ps.map mkF := by
    have : dropL (fileN p.1) (mkF p :: ps.map mkF) = dropL (fileN p.1) (ps.map mkF) := by
      simp [dropL, mkF]
    rw [this]
    refine dropL_self (fun f hf => ?_)
    obtain ⟨q, hq, rfl⟩ := List.mem_map.1 hf
    exact fun e => Nat.ne_of_gt (hr.1 q hq) (fileN_inj e)
  rw [e1, dropL_self (fun f hf => by rw [h.junkN f hf]; exact fun e => newN_not _ e.symm)]

theorem SLs.used (h : SLs m L ps junk) : usedL L ≤ ps.length * (m + 14) + usedL junk := by
  rw [usedL_perm h.perm, usedL_append]
  have : ∀ l : List SP, (∀ p ∈ l, p.1 ≤ 1099511627776 ∧ p.2.length ≤ m) → usedL (l.map mkF) ≤ l.length * (m + 14) := by
    intro l
    induction l with
    | nil => intro _; simp [usedL]
    | cons q r ih =>
      intro hq
      have h1 := cell_len (hq q List.mem_cons_self)
      have h2 := ih (fun p hp => hq p (List.mem_cons_of_mem _ hp))
      rw [List.map_cons, List.length_cons, Nat.succ_mul]
      simp only [usedL, fsize, mkF, List.length_nil]
      omega
  have := this ps h.each
  omega

theorem SLs.len (h : SLs m L ps junk) : L.length = ps.length + junk.length := by
  rw [h.perm.length_eq]; simp

theorem SLs.names (h : SLs m L ps junk) : ∀ f ∈ L, f.1.length < 9223372036854775808 := by
  intro f hf
  rcases List.mem_append.1 (h.perm.mem_iff.1 hf) with hf | hf
  · obtain ⟨p, hp, rfl⟩ := List.mem_map.1 hf
    have := fileN_len (h.each p hp).1
    show (fileN p.1).length < _
    omega
  · rw [h.junkN f hf]; decide
end

/-! ### States read -/
section
variable {m : Nat} {A : AD} {ps : List SP} {junk : List FR}

theorem SLs.st (h : SLs m A.2.1 ps junk) (hs : SortL A.2.1) (hd : A.2.2.2.1 = false) {p : SP} (hp : p ∈ ps) : stA A p.1 = some p.2 := by
  have e0 : readA A (fileN p.1) = (sealS (numB p.1 ++ p.2), 0) := by
    unfold readA
    rw [if_neg (by rw [hd]; decide), h.find hs hp]
    simp [mkF, cell]
  unfold stA
  rw [e0, if_neg (by simp)]
  exact stateF_seal _ _

theorem sortedI_eq {l l' : List Int} (h : l.Perm l') (hs : l'.Pairwise (· < ·)) : sortedI l = l' := by
  unfold sortedI
  have hp := (List.mergeSort_perm l (fun x y => decide (x ≤ y))).trans h
  refine hp.eq_of_pairwise (le := fun x y => x ≤ y) ?_ ?_ ?_
  · intro a b _ _ h1 h2; omega
  · have := List.pairwise_mergeSort (le := fun x y : Int => decide (x ≤ y)) (fun a b c h1 h2 => by simp only [decide_eq_true_eq] at *; omega) (fun a b => by simp only [Bool.or_eq_true, decide_eq_true_eq]; omega) l
    exact this.imp (fun h => by simpa using h)
  · exact hs.imp (fun h => by omega)

theorem nameNo_new : nameNo newN = none := by
  cases h : nameNo newN with
  | none => rfl
  | some n => exact absurd (nameNo_some (by decide) h).1.symm (newN_not n)

/-- The numbers of these states. -/
def nums (ps : List SP) : List Int := ps.map (fun p => (p.1 : Int))

theorem SLs.all (h : SLs m A.2.1 ps junk) (hs : SortL A.2.1) (hd : A.2.2.2.1 = false) : allA A = nums ps := by
  unfold allA nums
  rw [if_neg (by rw [hd]; decide)]
  refine sortedI_eq ?_ ?_
  · have h1 : ((A.2.1.map (·.1)).filterMap (numOf A)).Perm (((ps.map mkF ++ junk).map (·.1)).filterMap (numOf A)) := (h.perm.map _).filterMap _
    have h2 : ((ps.map mkF ++ junk).map (·.1)).filterMap (numOf A) = ps.map (·.1) := by
      rw [List.map_append, List.filterMap_append, List.map_map]
      have e1 : (junk.map (·.1)).filterMap (numOf A) = [] := by
        rw [List.filterMap_eq_nil_iff]
        intro x hx
        obtain ⟨f, hf, rfl⟩ := List.mem_map.1 hx
        unfold numOf
        rw [h.junkN f hf, nameNo_new]; rfl
      rw [e1, List.append_nil]
      have e2 : ∀ l : List SP, (∀ p ∈ l, p ∈ ps) → (l.map ((·.1) ∘ mkF)).filterMap (numOf A) = l.map (·.1) := by
        intro l
        induction l with
        | nil => intro _; rfl
        | cons q r ih =>
          intro hq
          have hq1 := hq q List.mem_cons_self
          rw [List.map_cons, List.filterMap_cons, List.map_cons, ih (fun p hp => hq p (List.mem_cons_of_mem _ hp))]
          have : numOf A (((·.1) ∘ mkF) q) = some q.1 := by
            show numOf A (fileN q.1) = some q.1
            unfold numOf
            rw [nameNo_file (h.each q hq1).1]
            simp [h.st hs hd hq1]
          rw [this]
      exact e2 ps (fun p hp => hp)
    rw [h2] at h1
    have h3 := h1.map Int.ofNat
    rw [List.map_map] at h3
    exact h3
  · rw [List.pairwise_map]
    exact h.rise.imp (fun h => by omega)
end

end Go.Proofs.Ytlfemhkabjafeaa.M

/- Plain law of the keeper, part 4: its calls. -/
set_option linter.unusedVariables false
set_option linter.unusedSimpArgs false
namespace Go.Proofs.Ytlfemhkabjafeaa.M

/-- A keeper on a disk, and what lies there. -/
structure KS (σ : St) (k d n0 m : Nat) (A : AD) (ps : List SP) (junk : List FR) : Prop where
  kp : KP σ k d
  dv : DV σ d n0 A
  ok : OkA A
  kl : SLs m A.2.1 ps junk

section
variable {σ : St} {k d n0 m : Nat} {A : AD} {ps : List SP} {junk : List FR}

theorem f83_eq (h : KS σ k d n0 m A ps junk) : ∃ σ' B, Fr σ σ' d n0 ∧ B.1 = A.1 ∧ (armA0 A = 0 → armA0 B = 0) ∧
    ((downA A = false ∧ downA B = false ∧ f83 (some k) σ = some (0, σ') ∧ KS σ' k d n0 m B ps []) ∨
     (downA B = true ∧ (armA0 A = 0 → downA A = true) ∧ f83 (some k) σ = some (11, σ') ∧ KS σ' k d n0 m B ps junk)) := by
  obtain ⟨σ', g1, g2, g3⟩ := f37_eq h.dv h.ok newN
  have e0 : f83 (some k) σ = some (if (removeA A newN).1 ≠ 8 then (removeA A newN).1 else 0, σ') := by
    unfold f83
    have := h.kp
    simp only [h.kp, f88_eq h.kp, g1, Option.bind_eq_bind, Option.bind_some]
    by_cases c : (removeA A newN).1 = 8
    · rw [if_neg (by simp [c]), if_neg (by simpa using c)]
    · rw [if_pos (by simpa using c), if_pos c]
  cases hd : downA A with
  | true =>
    have e1 : removeA A newN = (11, A) := by unfold removeA someA; rw [if_pos hd]
    rw [e1] at g2 e0
    exact ⟨σ', A, g3, rfl, id, .inr ⟨hd, fun _ => rfl, by rw [e0]; rfl, ⟨h.kp.fr g3, g2, h.ok, h.kl⟩⟩⟩
  | false =>
    cases hf : findL newN A.2.1 with
    | none =>
      have hj := h.kl.noJunk hf
      subst hj
      have e1 : removeA A newN = (8, A) := by unfold removeA someA; rw [if_neg (by rw [show A.2.2.2.1 = false from hd]; decide), hf]
      rw [e1] at g2 e0
      exact ⟨σ', A, g3, rfl, id, .inl ⟨rfl, hd, by rw [e0]; rfl, ⟨h.kp.fr g3, g2, h.ok, h.kl⟩⟩⟩
    | some f =>
      obtain ⟨B, b1, b2, b3, ⟨b4, b5, b6⟩ | ⟨b4, b5, b6, b7⟩⟩ := remove_cases h.ok hd hf
      · rw [b6] at g2 e0
        refine ⟨σ', B, g3, b1, b3, .inl ⟨rfl, b4, by rw [e0]; rfl, ⟨h.kp.fr g3, g2, b2, ?_⟩⟩⟩
        rw [b5]; exact h.kl.clear
      · rw [b7] at g2 e0
        refine ⟨σ', B, g3, b1, b3, .inr ⟨b4, fun hh => absurd hh b6, by rw [e0]; rfl, ⟨h.kp.fr g3, g2, b2, ?_⟩⟩⟩
        rw [b5]; exact h.kl

/-! ### Old states taken away -/
theorem f41_loop (tl : List Int) (htl : tl.length = 1) : ∀ (rem : List SP) (pre : List Int) (rest : List SP) (σ : St) (A : AD), pre.length + rem.length ≤ 128 → KS σ k d n0 m A (rem ++ rest) [] → downA A = false →
    ∃ σ' B, Fr σ σ' d n0 ∧ B.1 = A.1 ∧ (armA0 A = 0 → armA0 B = 0) ∧
      ((downA B = false ∧ (∃ z, f41_l0 (some k) (pre ++ nums rem ++ tl) ((pre.length : Nat) : Int) σ = some (.inl (z, σ'))) ∧ KS σ' k d n0 m B rest []) ∨
       (downA B = true ∧ armA0 A ≠ 0 ∧ f41_l0 (some k) (pre ++ nums rem ++ tl) ((pre.length : Nat) : Int) σ = some (.inr (11, σ')) ∧ ∃ t : List SP, (∀ p ∈ t, p ∈ rem) ∧ KS σ' k d n0 m B (t ++ rest) []))
  | [], pre, rest, σ, A, hl, h, hd => by
    refine ⟨σ, A, Fr.refl _ _ _, rfl, id, .inl ⟨hd, ⟨((pre.length : Nat) : Int), ?_⟩, h⟩⟩
    rw [f41_l0]
    simp only [List.length_nil, Nat.add_zero] at hl
    have e : IntKind.wrap .i64 (((pre ++ nums [] ++ tl).length : Int) - 1) = (pre.length : Int) := by
      simp only [nums, List.map_nil, List.append_nil, List.length_append, htl]
      rw [wrap_id (by omega) (by omega)]; omega
    rw [e]
    simp
  | p :: rem, pre, rest, σ, A, hl, h, hd => by
    rw [f41_l0]
    simp only [List.length_cons] at hl
    have e : IntKind.wrap .i64 (((pre ++ nums (p :: rem) ++ tl).length : Int) - 1) = ((pre.length + rem.length + 1 : Nat) : Int) := by
      simp only [nums, List.length_append, List.length_map, List.length_cons, htl]
      rw [wrap_id (by omega) (by omega)]; omega
    have hlt : ((pre.length : Nat) : Int) < ((pre.length + rem.length + 1 : Nat) : Int) := by omega
    have hn : pre.length < (pre ++ nums (p :: rem) ++ tl).length := by simp [nums]
    have hix : ix (pre ++ nums (p :: rem) ++ tl) ((pre.length : Nat) : Int) = some (p.1 : Int) := by
      rw [ix_at hn]
      simp [nums]
    have hw : IntKind.wrap .i64 ((pre.length : Int) + 1) = (((pre ++ [(p.1 : Int)]).length : Nat) : Int) := by rw [wrap_id (by omega) (by omega)]; simp
    have hp : p ∈ (p :: rem) ++ rest := List.mem_append.2 (.inl List.mem_cons_self)
    obtain ⟨σ1, g1, g2, g3⟩ := f37_eq h.dv h.ok (fileN p.1)
    have hkp : σ.t116[k]? = some (some d, nmA, ()) := h.kp
    rw [e]
    simp only [hlt, decide_true, if_true, hix, hw, h.kp, hkp, f91_eq h.kp (h.kl.each p hp).1, g1, Option.bind_eq_bind, Option.bind_some]
    obtain ⟨B, b1, b2, b3, ⟨b4, b5, b6⟩ | ⟨b4, b5, b6, b7⟩⟩ := remove_cases h.ok hd (h.kl.find h.ok.sorted hp)
    · rw [b6] at g2 ⊢
      rw [if_neg (by simp)]
      have hk1 : SLs m B.2.1 (rem ++ rest) [] := by rw [b5]; exact h.kl.tail
      have h1 : KS σ1 k d n0 m B (rem ++ rest) [] := ⟨h.kp.fr g3, g2, b2, hk1⟩
      obtain ⟨σ', C, c1, c2, c3, c4⟩ := f41_loop tl htl rem (pre ++ [(p.1 : Int)]) rest σ1 B (by simp; omega) h1 b4
      have el : pre ++ [(p.1 : Int)] ++ nums rem ++ tl = pre ++ nums (p :: rem) ++ tl := by simp [nums]
      rw [el] at c4
      refine ⟨σ', C, g3.trans c1, c2.trans b1, fun hh => c3 (b3 hh), ?_⟩
      rcases c4 with ⟨c4, c5, c6⟩ | ⟨c4, c5, c6, t, c7, c8⟩
      · exact .inl ⟨c4, c5, c6⟩
      · exact .inr ⟨c4, fun hh => c5 (b3 hh), c6, t, fun q hq => List.mem_cons_of_mem _ (c7 q hq), c8⟩
    · rw [b7] at g2 ⊢
      rw [if_pos (by simp)]
      have hk1 : SLs m B.2.1 ((p :: rem) ++ rest) [] := by rw [b5]; exact h.kl
      exact ⟨σ1, B, g3, b1, b3, .inr ⟨b4, b6, rfl, p :: rem, fun q hq => hq, ⟨h.kp.fr g3, g2, b2, hk1⟩⟩⟩

/-! ### Save -/
/-- What is behind the first step of Save. -/
def saveT (p0 : Option Nat) (p1 : Int) (p2 : List UInt8) (loop : St → Option (Sum (Int × St) (Int × St))) (r15 : Int × St) : Option (Int × St) :=
  if (r15.1 != 0) = true then
  some (r15.1, r15.2)
  else
  p0 >>= fun i20 =>
  (r15.2.t116[i20]?) >>= fun o21 =>
  f88 p0 r15.2 >>= fun r22 =>
  f90 p1 >>= fun r23 =>
  if r23.length + p2.length ≤ 9223372036854775807 then
  f89 (r23 ++ p2) >>= fun r25 =>
  f24 o21.1 r22 r25 r15.2 >>= fun r26 =>
  if (r26.1 != 0) = true then
  some (r26.1, r26.2)
  else
  p0 >>= fun i31 =>
  (r26.2.t116[i31]?) >>= fun o32 =>
  f88 p0 r26.2 >>= fun r33 =>
  f33 o32.1 r33 r26.2 >>= fun r34 =>
  if (r34.1 != 0) = true then
  some (r34.1, r34.2)
  else
  p0 >>= fun i39 =>
  (r34.2.t116[i39]?) >>= fun o40 =>
  f88 p0 r34.2 >>= fun r41 =>
  f91 p0 p1 r34.2 >>= fun r42 =>
  f36 o40.1 r41 r42 r34.2 >>= fun r43 =>
  if (r43.1 != 0) = true then
  some (r43.1, r43.2)
  else
  loop r43.2 >>= fun rr67 => (match rr67 with
  | .inr yy => some yy
  | .inl z66 =>
  some (0, z66.2))
  else none

theorem f41_is (p0 : Option Nat) (p1 : Int) (p2 : List UInt8) (σ : St) : f41 p0 p1 p2 σ = if p0.isNone = true then some (1, σ) else
    if ((decide (p1 < 0)) || (decide (p1 > 1099511627776))) = true then some (3, σ) else
    f40 p0 σ >>= fun r8 => if (decide ((r8.length : Int) > 0)) = true then
      (ix r8 (IntKind.wrap .i64 ((r8.length : Int) - 1))) >>= fun x11 => if (decide (p1 ≤ x11)) = true then some (9, σ) else f83 p0 σ >>= saveT p0 p1 p2 (f41_l0 p0 r8 0)
    else f83 p0 σ >>= saveT p0 p1 p2 (f41_l1 p0 r8 0) := rfl
end
end Go.Proofs.Ytlfemhkabjafeaa.M

/- Plain law of the keeper, part 5: a state saved. -/
set_option linter.unusedVariables false
set_option linter.unusedSimpArgs false
namespace Go.Proofs.Ytlfemhkabjafeaa.M

section
variable {σ : St} {k d n0 m : Nat} {A : AD} {ps : List SP} {junk : List FR}

theorem append_step (h : KS σ k d n0 m A ps []) (hd : downA A = false) (h2 : ps.length ≤ 2) (hr : 3 * ((m : Int) + 14) ≤ A.1) (hm : m ≤ 3000) {b : List UInt8} (hb : b.length ≤ m + 14) : ∃ σ' B e, f24 (some d) newN b σ = some (e, σ') ∧ Fr σ σ' d n0 ∧ B.1 = A.1 ∧ (armA0 A = 0 → armA0 B = 0) ∧ KS σ' k d n0 m B ps [(newN, [], b, ())] ∧ ((e = 0 ∧ downA B = false) ∨ (e = 11 ∧ downA B = true ∧ armA0 A ≠ 0)) := by
  obtain ⟨σ', g1, g2, g3⟩ := f24_eq h.dv h.ok newN b (by decide)
  have hf := h.kl.findNew
  have hu := h.kl.used
  have hl := h.kl.len
  have hc : ¬ full A newN b := by
    have e1 : fsize (emptyF newN) = 0 := rfl
    have e2 : usedL ([] : List FR) = 0 := rfl
    have e3 : ([] : List FR).length = 0 := rfl
    rw [e2] at hu
    rw [e3] at hl
    have h3 : ps.length * (m + 14) ≤ 2 * (m + 14) := Nat.mul_le_mul_right _ h2
    simp only [full, hf, Option.getD_none, e1, not_or, not_and]
    exact ⟨fun _ => by omega, by omega, by omega⟩
  have hB := h.ok.appended hc
  rw [hf] at hB
  have e0 : appendA A newN b = writeA (putA A (setL (moreF (emptyF newN) b) false A.2.1)) id := by
    unfold appendA
    rw [if_neg (by rw [show A.2.2.2.1 = false from hd]; decide), if_neg (by decide), if_neg hc, hf]
    rfl
  have hkl : SLs m (setL (moreF (emptyF newN) b) false A.2.1) ps [(newN, [], b, ())] := h.kl.put (f := moreF (emptyF newN) b) rfl
  obtain ⟨B, b1, b2, b3, b4, ⟨b5, b6⟩ | ⟨b5, b6, b7⟩⟩ := write_cases (A := putA A (setL (moreF (emptyF newN) b) false A.2.1)) hB hd id
  · rw [e0, b6] at g1 g2
    exact ⟨σ', B, 0, g1, g3, b1, b4, ⟨h.kp.fr g3, g2, b3, by rw [b2]; exact hkl⟩, .inl ⟨rfl, b5⟩⟩
  · rw [e0, b7] at g1 g2
    exact ⟨σ', B, 11, g1, g3, b1, b4, ⟨h.kp.fr g3, g2, b3, by rw [b2]; exact hkl⟩, .inr ⟨rfl, b5, b6⟩⟩

theorem sync_step {f : FR} (h : KS σ k d n0 m A ps [f]) (hd : downA A = false) : ∃ σ' B e g, f33 (some d) newN σ = some (e, σ') ∧ Fr σ σ' d n0 ∧ B.1 = A.1 ∧ (armA0 A = 0 → armA0 B = 0) ∧ KS σ' k d n0 m B ps [g] ∧ ((e = 0 ∧ downA B = false ∧ g = safeF newN f) ∨ (e = 11 ∧ downA B = true ∧ armA0 A ≠ 0)) := by
  obtain ⟨σ', g1, g2, g3⟩ := f33_eq h.dv h.ok newN
  have hf := h.kl.findNew1 h.ok.sorted
  have e0 : syncA A newN = writeA A (fun B => putA B (setL (safeF newN f) false B.2.1)) := by
    unfold syncA someA
    rw [if_neg (by rw [show A.2.2.2.1 = false from hd]; decide), hf]
  obtain ⟨B, b1, b2, b3, b4, ⟨b5, b6⟩ | ⟨b5, b6, b7⟩⟩ := write_cases h.ok hd (fun B => putA B (setL (safeF newN f) false B.2.1))
  · rw [e0, b6] at g1 g2
    refine ⟨σ', putA B (setL (safeF newN f) false B.2.1), 0, safeF newN f, g1, g3, b1, b4, ⟨h.kp.fr g3, g2, ?_, ?_⟩, .inl ⟨rfl, b5, rfl⟩⟩
    · refine b3.put (f := f) (s := newN) (by rw [b2]; exact hf) rfl ?_
      simp [fsize, safeF]
    · show SLs m (setL (safeF newN f) false B.2.1) ps [safeF newN f]
      rw [b2]; exact h.kl.put rfl
  · rw [e0, b7] at g1 g2
    exact ⟨σ', B, 11, f, g1, g3, b1, b4, ⟨h.kp.fr g3, g2, b3, by rw [b2]; exact h.kl⟩, .inr ⟨rfl, b5, b6⟩⟩

theorem rename_step {p : SP} (h : KS σ k d n0 m A ps [(newN, cell p, [], ())]) (hd : downA A = false) (hp : ∀ q ∈ ps, q.1 < p.1) (he : p.1 ≤ 1099511627776 ∧ p.2.length ≤ m) : ∃ σ' B e ps' junk', f36 (some d) newN (fileN p.1) σ = some (e, σ') ∧ Fr σ σ' d n0 ∧ B.1 = A.1 ∧ (armA0 A = 0 → armA0 B = 0) ∧ KS σ' k d n0 m B ps' junk' ∧ ((e = 0 ∧ downA B = false ∧ ps' = ps ++ [p] ∧ junk' = []) ∨ (e = 11 ∧ downA B = true ∧ armA0 A ≠ 0 ∧ ps' = ps)) := by
  have hfl := fileN_len he.1
  obtain ⟨σ', g1, g2, g3⟩ := f36_eq h.dv h.ok newN (fileN p.1) (by decide) (by omega)
  have hf := h.kl.findNew1 h.ok.sorted
  have e0 : renameA A newN (fileN p.1) = writeA A (fun B => putA B (setL (mkF p) false (dropL newN B.2.1))) := by
    unfold renameA someA
    rw [if_neg (by rw [show A.2.2.2.1 = false from hd]; decide), if_neg (by decide), if_neg (by rw [okName_file he.1]; decide), if_neg (by rw [show A.2.2.2.1 = false from hd]; decide), hf]
    simp only []
    rw [if_neg (by simp)]
    rfl
  have hok := h.ok.do (a := (5, newN, [], fileN p.1, 0, [], ())) ⟨by show newN.length < _; decide, by show (fileN p.1).length < _; omega, by show (-9223372036854775808 : Int) ≤ 0 ∧ (0 : Int) < 9223372036854775808; decide⟩
  have e2 : doA A (5, newN, [], fileN p.1, 0, [], ()) = renameA A newN (fileN p.1) := by simp [doA]
  rw [e2, e0] at hok
  obtain ⟨B, b1, b2, b3, b4, ⟨b5, b6⟩ | ⟨b5, b6, b7⟩⟩ := write_cases h.ok hd (fun B => putA B (setL (mkF p) false (dropL newN B.2.1)))
  · rw [b6] at hok
    rw [e0, b6] at g1 g2
    refine ⟨σ', putA B (setL (mkF p) false (dropL newN B.2.1)), 0, ps ++ [p], [], g1, g3, b1, b4, ⟨h.kp.fr g3, g2, hok, ?_⟩, .inl ⟨rfl, b5, rfl, rfl⟩⟩
    show SLs m (setL (mkF p) false (dropL newN B.2.1)) (ps ++ [p]) []
    rw [b2]; exact h.kl.rename hp he
  · rw [e0, b7] at g1 g2
    exact ⟨σ', B, 11, ps, _, g1, g3, b1, b4, ⟨h.kp.fr g3, g2, b3, by rw [b2]; exact h.kl⟩, .inr ⟨rfl, b5, b6, rfl⟩⟩

/-- The last of some. -/
def lastOf (ps : List SP) : List SP := ps.drop (ps.length - 1)

theorem saveT_eq {q : Nat} {s : List UInt8} (hq : q ≤ 1099511627776) (hs : s.length ≤ m) (h : KS σ k d n0 m A ps []) (hd : downA A = false) (h2 : ps.length ≤ 2) (hr : 3 * ((m : Int) + 14) ≤ A.1) (hm : m ≤ 3000) (hp : ∀ p ∈ ps, p.1 < q)
    {loop : St → Option (Sum (Int × St) (Int × St))}
    (hl : ∀ (σ : St) (A : AD), KS σ k d n0 m A (ps ++ [(q, s)]) [] → downA A = false → ∃ σ' B, Fr σ σ' d n0 ∧ B.1 = A.1 ∧ (armA0 A = 0 → armA0 B = 0) ∧
      ((downA B = false ∧ (∃ z, loop σ = some (.inl (z, σ'))) ∧ KS σ' k d n0 m B (lastOf ps ++ [(q, s)]) []) ∨
       (downA B = true ∧ armA0 A ≠ 0 ∧ loop σ = some (.inr (11, σ')) ∧ ∃ t : List SP, (∀ p ∈ t, p ∈ ps) ∧ KS σ' k d n0 m B (t ++ [(q, s)]) []))) :
    ∃ σ' B e ps' junk', saveT (some k) (q : Int) s loop (0, σ) = some (e, σ') ∧ Fr σ σ' d n0 ∧ B.1 = A.1 ∧ (armA0 A = 0 → armA0 B = 0) ∧ KS σ' k d n0 m B ps' junk' ∧
      ((e = 0 ∧ downA B = false ∧ ps' = lastOf ps ++ [(q, s)] ∧ junk' = []) ∨ (e = 11 ∧ downA B = true ∧ armA0 A ≠ 0 ∧ (ps' = ps ∨ ∃ t : List SP, (∀ p ∈ t, p ∈ ps) ∧ ps' = t ++ [(q, s)]))) := by
  obtain ⟨n1, n2⟩ := f90_eq hq
  have hcl := cell_len (p := (q, s)) ⟨hq, hs⟩
  have hsl : sealS (numB q ++ s) = cell (q, s) := rfl
  have hk0 : σ.t116[k]? = some (some d, nmA, ()) := h.kp
  unfold saveT
  simp only [bne_self_eq_false, Bool.false_eq_true, if_false, hk0, f88_eq h.kp, n1, Option.bind_eq_bind, Option.bind_some]
  rw [if_pos (by omega), f89_eq (by rw [List.length_append]; omega), hsl]
  simp only [Option.bind_some]
  obtain ⟨σ1, A1, e1, g1, r1, a1, v1, k1, o1⟩ := append_step h hd h2 hr hm hcl
  rw [g1]
  simp only [Option.bind_some]
  rcases o1 with ⟨rfl, d1⟩ | ⟨rfl, d1, w1⟩
  case inr => exact ⟨σ1, A1, 11, ps, _, by simp, r1, a1, v1, k1, .inr ⟨rfl, d1, w1, .inl rfl⟩⟩
  have hk1 : σ1.t116[k]? = some (some d, nmA, ()) := k1.kp
  simp only [bne_self_eq_false, Bool.false_eq_true, if_false, hk1, f88_eq k1.kp, Option.bind_some]
  obtain ⟨σ2, A2, e2, f2, g2, r2, a2, v2, k2, o2⟩ := sync_step k1 d1
  rw [g2]
  simp only [Option.bind_some]
  rcases o2 with ⟨rfl, d2, rfl⟩ | ⟨rfl, d2, w2⟩
  case inr => exact ⟨σ2, A2, 11, ps, _, by simp, r1.trans r2, a2.trans a1, fun hh => v2 (v1 hh), k2, .inr ⟨rfl, d2, fun hh => w2 (v1 hh), .inl rfl⟩⟩
  have hk2 : σ2.t116[k]? = some (some d, nmA, ()) := k2.kp
  simp only [bne_self_eq_false, Bool.false_eq_true, if_false, hk2, f88_eq k2.kp, f91_eq k2.kp hq, Option.bind_some]
  have k2' : KS σ2 k d n0 m A2 ps [(newN, cell (q, s), [], ())] := k2
  obtain ⟨σ3, A3, e3, ps3, junk3, g3, r3, a3, v3, k3, o3⟩ := rename_step (p := (q, s)) k2' d2 hp ⟨hq, hs⟩
  rw [g3]
  simp only [Option.bind_some]
  rcases o3 with ⟨rfl, d3, rfl, rfl⟩ | ⟨rfl, d3, w3, rfl⟩
  case inr => exact ⟨σ3, A3, 11, _, _, by simp, (r1.trans r2).trans r3, a3.trans (a2.trans a1), fun hh => v3 (v2 (v1 hh)), k3, .inr ⟨rfl, d3, fun hh => w3 (v2 (v1 hh)), .inl rfl⟩⟩
  obtain ⟨σ4, A4, r4, a4, v4, ⟨d4, ⟨z, g4⟩, k4⟩ | ⟨d4, w4, g4, t, ht, k4⟩⟩ := hl σ3 A3 k3 d3
  · exact ⟨σ4, A4, 0, _, _, by simp [g4], ((r1.trans r2).trans r3).trans r4, a4.trans (a3.trans (a2.trans a1)), fun hh => v4 (v3 (v2 (v1 hh))), k4, .inl ⟨rfl, d4, rfl, rfl⟩⟩
  · exact ⟨σ4, A4, 11, _, _, by simp [g4], ((r1.trans r2).trans r3).trans r4, a4.trans (a3.trans (a2.trans a1)), fun hh => v4 (v3 (v2 (v1 hh))), k4, .inr ⟨rfl, d4, fun hh => w4 (v3 (v2 (v1 hh))), .inr ⟨t, ht, rfl⟩⟩⟩
end
end Go.Proofs.Ytlfemhkabjafeaa.M

/- Plain law of the keeper, part 6: Save, Last and Open. -/
set_option linter.unusedVariables false
set_option linter.unusedSimpArgs false
namespace Go.Proofs.Ytlfemhkabjafeaa.M

theorem lastOf_app (pre : List SP) (l : SP) : lastOf (pre ++ [l]) = [l] := by
  unfold lastOf
  simp

section
variable {σ : St} {k d n0 m : Nat} {A : AD} {ps : List SP} {junk : List FR}

theorem f41_range {n : Int} {s : List UInt8} (h : n < 0 ∨ 1099511627776 < n) : f41 (some k) n s σ = some (3, σ) := by
  rw [f41_is, if_neg (by simp), if_pos (by simpa using h)]

theorem KS.numsLen (h : KS σ k d n0 m A ps junk) : ps.length ≤ 128 := by
  have := h.ok.files
  have := h.kl.len
  omega

theorem KS.f40 (h : KS σ k d n0 m A ps junk) (hd : downA A = false) : f40 (some k) σ = some (nums ps) := by
  rw [f40_eq h.kp h.dv h.ok h.kl.names, h.kl.all h.ok.sorted hd]

theorem KS.f40_down (h : KS σ k d n0 m A ps junk) (hd : downA A = true) : M.f40 (some k) σ = some [] := by
  rw [f40_eq h.kp h.dv h.ok h.kl.names]
  unfold allA
  rw [if_pos hd]

/-- A disk that is down takes no state. -/
theorem f41_down (h : KS σ k d n0 m A ps junk) (hd : downA A = true) {q : Nat} {s : List UInt8} (hq : q ≤ 1099511627776) :
    ∃ σ', f41 (some k) (q : Int) s σ = some (11, σ') ∧ Fr σ σ' d n0 ∧ KS σ' k d n0 m A ps junk := by
  obtain ⟨σ', g1, g2, g3⟩ := f37_eq h.dv h.ok newN
  have e1 : removeA A newN = (11, A) := by unfold removeA someA; rw [if_pos hd]
  rw [e1] at g1 g2
  refine ⟨σ', ?_, g3, ⟨h.kp.fr g3, g2, h.ok, h.kl⟩⟩
  have e2 : f83 (some k) σ = some (11, σ') := by
    unfold f83
    have := h.kp
    simp [h.kp, f88_eq h.kp, g1]
  rw [f41_is, if_neg (by simp), if_neg (by simp; omega), h.f40_down hd]
  simp only [Option.bind_eq_bind, Option.bind_some]
  rw [if_neg (by simp), e2]
  simp [saveT]

theorem f41_loop1 {p0 : Option Nat} : f41_l1 p0 [] 0 σ = some (.inl (0, σ)) := by
  rw [f41_l1]
  rw [if_neg (by
    have : IntKind.wrap .i64 ((([] : List Int).length : Int) - 1) = -1 := by decide
    rw [this]; decide)]

theorem f41_old (h : KS σ k d n0 m A ps junk) (hd : downA A = false) {q : Nat} {s : List UInt8} (hq : q ≤ 1099511627776) {p : SP} (hp : p ∈ ps) (hle : q ≤ p.1) : f41 (some k) (q : Int) s σ = some (9, σ) := by
  rw [f41_is, if_neg (by simp), if_neg (by simp; omega), h.f40 hd]
  simp only [Option.bind_eq_bind, Option.bind_some]
  have hl := h.numsLen
  have hpos : 0 < ps.length := List.length_pos_of_mem hp
  have hlen : (nums ps).length = ps.length := by simp [nums]
  rw [if_pos (by rw [hlen]; simp; omega)]
  have hw : IntKind.wrap .i64 (((nums ps).length : Int) - 1) = ((ps.length - 1 : Nat) : Int) := by rw [hlen, wrap_id (by omega) (by omega)]; omega
  have hi : ps.length - 1 < ps.length := by omega
  rw [hw, ix_at (by rw [hlen]; exact hi)]
  have e : (nums ps)[ps.length - 1]'(by rw [hlen]; exact hi) = ((ps[ps.length - 1]'hi).1 : Int) := by simp [nums]
  rw [e]
  simp only [Option.bind_some]
  have hmax : p.1 ≤ (ps[ps.length - 1]'hi).1 := by
    obtain ⟨i, hi2, rfl⟩ := List.getElem_of_mem hp
    by_cases c : i = ps.length - 1
    · subst c; exact Nat.le_refl _
    · have := (List.pairwise_iff_getElem.1 h.kl.rise) i (ps.length - 1) hi2 hi (by omega)
      omega
  rw [if_pos (by simp; omega)]

theorem f41_new (h : KS σ k d n0 m A ps junk) (hd : downA A = false) {q : Nat} {s : List UInt8} (hq : q ≤ 1099511627776) (hs : s.length ≤ m) (h2 : ps.length ≤ 2) (hr : 3 * ((m : Int) + 14) ≤ A.1) (hm : m ≤ 3000) (hp : ∀ p ∈ ps, p.1 < q) :
    ∃ σ' B e ps' junk', f41 (some k) (q : Int) s σ = some (e, σ') ∧ Fr σ σ' d n0 ∧ B.1 = A.1 ∧ (armA0 A = 0 → armA0 B = 0) ∧ KS σ' k d n0 m B ps' junk' ∧
      ((e = 0 ∧ downA B = false ∧ ps' = lastOf ps ++ [(q, s)] ∧ junk' = []) ∨ (e = 11 ∧ downA B = true ∧ armA0 A ≠ 0 ∧ (ps' = ps ∨ ∃ t : List SP, (∀ p ∈ t, p ∈ ps) ∧ ps' = t ++ [(q, s)]))) := by
  rw [f41_is, if_neg (by simp), if_neg (by simp; omega), h.f40 hd]
  simp only [Option.bind_eq_bind, Option.bind_some]
  have hl := h.numsLen
  have hlen : (nums ps).length = ps.length := by simp [nums]
  obtain ⟨σ1, A1, r1, a1, v1, ⟨_, d1, g1, k1⟩ | ⟨d1, w1, g1, k1⟩⟩ := f83_eq h
  case inr =>
    have w1 : armA0 A ≠ 0 := fun hh => by have := w1 hh; rw [hd] at this; cases this
    have e : ∀ loop, saveT (some k) (q : Int) s loop (11, σ1) = some (11, σ1) := fun loop => by simp [saveT]
    refine ⟨σ1, A1, 11, ps, junk, ?_, r1, a1, v1, k1, .inr ⟨rfl, d1, w1, .inl rfl⟩⟩
    rw [g1]
    simp only [Option.bind_some, e]
    split
    · rename_i c
      have hpos : 0 < ps.length := by rw [hlen] at c; simpa using c
      have hw : IntKind.wrap .i64 (((nums ps).length : Int) - 1) = ((ps.length - 1 : Nat) : Int) := by rw [hlen, wrap_id (by omega) (by omega)]; omega
      have hi : ps.length - 1 < ps.length := by omega
      rw [hw, ix_at (by rw [hlen]; exact hi)]
      have e : (nums ps)[ps.length - 1]'(by rw [hlen]; exact hi) = ((ps[ps.length - 1]'hi).1 : Int) := by simp [nums]
      rw [e]
      have := hp _ (List.getElem_mem hi)
      simp only [Option.bind_some]
      rw [if_neg (by simp; omega)]
    · rfl
  rw [g1]
  simp only [Option.bind_some]
  rcases List.eq_nil_or_concat ps with rfl | ⟨pre, l, rfl⟩
  · rw [if_neg (by simp [nums])]
    obtain ⟨σ2, A2, e2, ps2, j2, g2, r2, a2, v2, k2, o2⟩ := saveT_eq (loop := f41_l1 (some k) (nums []) 0) hq hs k1 d1 h2 (by rw [a1]; exact hr) hm hp (fun σ3 A3 h3 d3 => ⟨σ3, A3, Fr.refl _ _ _, rfl, id, .inl ⟨d3, ⟨0, f41_loop1⟩, h3⟩⟩)
    refine ⟨σ2, A2, e2, ps2, j2, g2, r1.trans r2, a2.trans a1, fun hh => v2 (v1 hh), k2, ?_⟩
    rcases o2 with ⟨o1, o2, o3, o4⟩ | ⟨o1, o2, o3, o4⟩
    · exact .inl ⟨o1, o2, o3, o4⟩
    · exact .inr ⟨o1, o2, fun hh => o3 (v1 hh), o4⟩
  · rw [List.concat_eq_append] at *
    rw [if_pos (by simp [nums])]
    have hw : IntKind.wrap .i64 (((nums (pre ++ [l])).length : Int) - 1) = ((pre.length : Nat) : Int) := by
      simp only [nums, List.length_map, List.length_append, List.length_cons, List.length_nil] at hlen ⊢
      rw [wrap_id (by simp at hl; omega) (by simp at hl; omega)]; simp
    have hi : pre.length < (nums (pre ++ [l])).length := by simp [nums]
    rw [hw, ix_at hi]
    have e : (nums (pre ++ [l]))[pre.length]'hi = (l.1 : Int) := by simp [nums]
    rw [e]
    simp only [Option.bind_some]
    have hlq := hp l (by simp)
    rw [if_neg (by simp; omega)]
    have hn : nums (pre ++ [l]) = [] ++ nums pre ++ [(l.1 : Int)] := by simp [nums]
    obtain ⟨σ2, A2, e2, ps2, j2, g2, r2, a2, v2, k2, o2⟩ := saveT_eq (loop := f41_l0 (some k) (nums (pre ++ [l])) 0) hq hs k1 d1 h2 (by rw [a1]; exact hr) hm hp (fun σ3 A3 h3 d3 => by
      rw [List.append_assoc] at h3
      have := f41_loop [(l.1 : Int)] rfl pre [] ([l] ++ [(q, s)]) σ3 A3 (by simp at hl ⊢; omega) h3 d3
      rw [← hn] at this
      obtain ⟨σ4, A4, r4, a4, v4, o4⟩ := this
      refine ⟨σ4, A4, r4, a4, v4, ?_⟩
      rcases o4 with ⟨o1, o2, o3⟩ | ⟨o1, o2, o3, t, o4, o5⟩
      · exact .inl ⟨o1, o2, by rw [lastOf_app]; exact o3⟩
      · refine .inr ⟨o1, o2, o3, t ++ [l], fun p hp => ?_, by rw [List.append_assoc]; exact o5⟩
        rcases List.mem_append.1 hp with hp | hp
        · exact List.mem_append.2 (.inl (o4 p hp))
        · exact List.mem_append.2 (.inr hp))
    refine ⟨σ2, A2, e2, ps2, j2, g2, r1.trans r2, a2.trans a1, fun hh => v2 (v1 hh), k2, ?_⟩
    rcases o2 with ⟨o1, o2, o3, o4⟩ | ⟨o1, o2, o3, o4⟩
    · exact .inl ⟨o1, o2, o3, o4⟩
    · exact .inr ⟨o1, o2, fun hh => o3 (v1 hh), o4⟩

/-! ### Last -/
theorem f43_none (h : KS σ k d n0 m A [] junk) (hd : downA A = false) : f43 (some k) σ = some (0, [], 8) := by
  have hk : σ.t116[k]? = some (some d, nmA, ()) := h.kp
  obtain ⟨o, qs, hq⟩ := h.dv
  unfold f43
  simp only [Option.isNone_some, Bool.false_eq_true, if_false, hk, f31_eq hq, show A.2.2.2.1 = false from hd, h.f40 hd, Option.bind_eq_bind, Option.bind_some]
  rfl

theorem f43_last {pre : List SP} {p : SP} (h : KS σ k d n0 m A (pre ++ [p]) junk) (hd : downA A = false) : f43 (some k) σ = some ((p.1 : Int), p.2, 0) := by
  have hk : σ.t116[k]? = some (some d, nmA, ()) := h.kp
  have hl := h.numsLen
  obtain ⟨o, qs, hq⟩ := h.dv
  unfold f43
  simp only [Option.isNone_some, Bool.false_eq_true, if_false, hk, f31_eq hq, show A.2.2.2.1 = false from hd, h.f40 hd, Option.bind_eq_bind, Option.bind_some]
  rw [if_neg (by simp [nums]; omega)]
  have hw : IntKind.wrap .i64 (((nums (pre ++ [p])).length : Int) - 1) = ((pre.length : Nat) : Int) := by
    simp only [nums, List.length_map, List.length_append, List.length_cons, List.length_nil]
    rw [wrap_id (by simp at hl; omega) (by simp at hl; omega)]; simp
  have hi : pre.length < (nums (pre ++ [p])).length := by simp [nums]
  rw [hw, ix_at hi]
  have e : (nums (pre ++ [p]))[pre.length]'hi = (p.1 : Int) := by simp [nums]
  have hp : p ∈ pre ++ [p] := by simp
  rw [e]
  simp only [Option.bind_some]
  rw [f86_eq h.kp h.dv h.ok (h.kl.each p hp).1, h.kl.st h.ok.sorted hd hp]
  rfl

/-! ### Open -/
theorem f38_eq (hD : DV σ d n0 A) (hA : OkA A) (hK : SLs m A.2.1 ps junk) (hd : downA A = false) : ∃ σ' B e v, f38 (some d) nmA σ = some ((v, e), σ') ∧ Fr (σ.add116 (some d, nmA, ())) σ' d n0 ∧ B.1 = A.1 ∧ (armA0 A = 0 → armA0 B = 0) ∧
    ((e = 0 ∧ v = some σ.t116.length ∧ downA B = false ∧ KS σ' σ.t116.length d n0 m B ps []) ∨ (e = 11 ∧ armA0 A ≠ 0)) := by
  obtain ⟨o, qs, hq⟩ := hD
  have h0 : KS (σ.add116 (some d, nmA, ())) σ.t116.length d n0 m A ps junk := ⟨got116, ⟨o, qs, hq.same rfl rfl⟩, hA, hK⟩
  obtain ⟨σ1, B, r1, a1, v1, o1⟩ := f83_eq h0
  have e0 : f38 (some d) nmA σ = f83 (some σ.t116.length) (σ.add116 (some d, nmA, ())) >>= fun r14 => if (r14.1 != 0) = true then some ((none, r14.1), r14.2) else some ((some σ.t116.length, 0), r14.2) := by
    unfold f38
    simp only [Option.isNone_some, Bool.false_eq_true, if_false, f82_all, f31_eq hq, show A.2.2.2.1 = false from hd, Option.bind_eq_bind, Option.bind_some, Bool.not_true]
  rcases o1 with ⟨_, d1, g1, k1⟩ | ⟨d1, w1, g1, k1⟩
  · refine ⟨σ1, B, 0, some σ.t116.length, by rw [e0, g1]; rfl, r1, a1, v1, .inl ⟨rfl, rfl, d1, k1⟩⟩
  · refine ⟨σ1, B, 11, none, by rw [e0, g1]; rfl, r1, a1, v1, .inr ⟨rfl, fun hh => ?_⟩⟩
    have := w1 hh
    rw [hd] at this; cases this
end

/-! ### Numbers compared -/
theorem f42_loop (l : List Int) (hl : l.length < 9223372036854775808) : ∀ (k n : Nat), n + k = l.length → ∃ z, f42_l0 l l (n : Int) = some (.inl z)
  | 0, n, h => by
    rw [f42_l0]
    have : n = l.length := by omega
    subst this
    exact ⟨_, by simp; rfl⟩
  | k + 1, n, h => by
    rw [f42_l0]
    have hn : n < l.length := by omega
    have hw : IntKind.wrap .i64 ((n : Int) + 1) = ((n + 1 : Nat) : Int) := by rw [wrap_id (by omega) (by omega)]; omega
    have h1 : ((n : Int) < (l.length : Int)) := by omega
    obtain ⟨z, ih⟩ := f42_loop l hl k (n + 1) (by omega)
    refine ⟨z, ?_⟩
    simp only [h1, decide_true, if_true, ix_at hn, Option.bind_eq_bind, Option.bind_some, hw, ih, bne_self_eq_false]
    rw [if_neg Bool.false_ne_true]

theorem f42_eq (l : List Int) (hl : l.length < 9223372036854775808) : f42 l l = some true := by
  obtain ⟨z, h0⟩ := f42_loop l hl l.length 0 (by omega)
  rw [show (((0 : Nat) : Int)) = (0 : Int) from rfl] at h0
  unfold f42
  rw [if_neg (by simp), h0]
  rfl
end Go.Proofs.Ytlfemhkabjafeaa.M

/- Printed by own program: twins and walks. -/
set_option linter.unusedVariables false
set_option maxRecDepth 100000
namespace Go.Proofs.Ytlfemhkabjafeaa.M
open Go.Proofs (Try.prog Try.func39 Try.f39 Try.func9 Try.f9)

def f39  (σ : St) : Option (Bool × St) :=
  f18 1000 σ >>= fun r3 =>
  f38 r3.1.1 [97, 108, 108] r3.2 >>= fun r5 =>
  if ((r5.1.2 != 0) || r5.1.1.isNone) = true then
  some (false, r5.2)
  else
  f41 r5.1.1 3 [97] r5.2 >>= fun r9 =>
  if (r9.1 != 0) = true then
  some (false, r9.2)
  else
  f41 r5.1.1 5 [98] r9.2 >>= fun r11 =>
  if (r11.1 != 0) = true then
  some (false, r11.2)
  else
  f41 r5.1.1 9 [99] r11.2 >>= fun r13 =>
  if (r13.1 != 0) = true then
  some (false, r13.2)
  else
  f43 r5.1.1 r13.2 >>= fun r16 =>
  if (((r16.1 == 9) && (r16.2.1 == [99])) && (r16.2.2 == 0)) = true then
  f40 r5.1.1 r13.2 >>= fun r18 =>
  f42 r18 [5, 9] >>= fun r19 =>
  some (r19, r13.2)
  else
  some (false, r13.2)

theorem f39_ok  {σ : St} {p : Bool × St} (h : f39 σ = some p) : Spec Try.prog 39 [] (tabs σ) (.kv .bool p.1) (tabs p.2) := by
  refine Spec.intro Try.func39 (by kernel_rfl) rfl (by kernel_rfl) (fun a w G0 Ls hE hH hN => ?_)
  have hle : G0.le G0 := Gh.le_refl G0
  unfold f39 at h
  refine wp_seq_k (fun K hK1 => ?_)
  refine wp_region_from ?_
  refine segO 1 [] [(0, .kv .bool false)] (Os := []) trivial hE hH (by kernel_rfl) (fun a hE => ?_)
  refine wpFrom_end (by kernel_rfl) ?_
  refine Exit.then_normal (hK1 _ _ ?_)
  refine wp_seq_k (fun K hK2 => ?_)
  refine wp_region_from ?_
  obtain ⟨r3, hr3, h⟩ := bs h
  refine stepCall (d := (some 9)) (f18_ok hr3) hE hH hN (by kernel_rfl) (by kernel_rfl) trivial (fun a w G hl1 hE hH => ?_)
  have hle := Gh.le_trans hle hl1
  refine segO 5 [] [(1, .kv (.ptr 105) r3.1.1)] (Os := []) trivial hE hH (by kernel_rfl) (fun a hE => ?_)
  refine wpFrom_end (by kernel_rfl) ?_
  refine Exit.then_normal (hK2 _ _ ?_)
  refine wp_seq_k (fun K hK4 => ?_)
  refine wp_region_from ?_
  refine segO 1 [] [(13, .kv (.ptr 105) r3.1.1)] (Os := []) trivial hE hH (by kernel_rfl) (fun a hE => ?_)
  obtain ⟨r5, hr5, h⟩ := bs h
  refine stepCall (d := (some 14)) (f38_ok hr5) hE hH hN (by kernel_rfl) (by kernel_rfl) trivial (fun a w G hl2 hE hH => ?_)
  have hle := Gh.le_trans hle hl2
  refine segO 5 [] [(3, .kv (.ptr 116) r5.1.1), (4, .kv .i r5.1.2)] (Os := []) trivial hE hH (by kernel_rfl) (fun a hE => ?_)
  refine wpFrom_end (by kernel_rfl) ?_
  refine Exit.then_normal (hK4 _ _ ?_)
  refine wp_seq_k (fun K hK6 => ?_)
  refine wp_seq_k (fun K hK7 => ?_)
  refine wp_region_from ?_
  refine segO 7 [] [(23, .kv .bool ((r5.1.2 != 0) || r5.1.1.isNone))] (Os := []) trivial hE hH (by kernel_rfl) (fun a hE => ?_)
  by_cases hc : ((r5.1.2 != 0) || r5.1.1.isNone) = true
  · replace h := ifT hc h
    have hE := hE.setB 23 (by kernel_rfl) hc
    refine segO 14 [] [(37, .kv .bool true)] (Os := []) trivial hE hH (by kernel_rfl) (fun a hE => ?_)
    refine wpFrom_end (by kernel_rfl) ?_
    refine Exit.then_normal (hK7 _ _ ?_)
    refine condT hE (by kernel_rfl) rfl ?_
    refine wp_seq_k (fun K hK8 => ?_)
    refine wp_region_from ?_
    refine segO 1 [] [(0, .kv .bool false)] (Os := []) trivial hE hH (by kernel_rfl) (fun a hE => ?_)
    refine wpFrom_end (by kernel_rfl) ?_
    refine Exit.then_normal (hK8 _ _ ?_)
    refine wp_ret ?_
    refine Exit.then_ret ?_
    cases h
    exact ret1 rfl hE hle hH (by kernel_rfl)
  · replace h := ifN hc h
    have hE := hE.setB 23 (by kernel_rfl) (bf hc)
    refine segO 1 [] [(24, .kv (.ptr 116) r5.1.1)] (Os := []) trivial hE hH (by kernel_rfl) (fun a hE => ?_)
    obtain ⟨r9, hr9, h⟩ := bs h
    refine stepCall (d := (some 25)) (f41_ok hr9) hE hH hN (by kernel_rfl) (by kernel_rfl) trivial (fun a w G hl3 hE hH => ?_)
    have hle := Gh.le_trans hle hl3
    refine segO 3 [] [(28, .kv .bool (r9.1 != 0))] (Os := []) trivial hE hH (by kernel_rfl) (fun a hE => ?_)
    by_cases hc : (r9.1 != 0) = true
    · replace h := ifT hc h
      have hE := hE.setB 28 (by kernel_rfl) hc
      refine segO 9 [] [(37, .kv .bool true)] (Os := []) trivial hE hH (by kernel_rfl) (fun a hE => ?_)
      refine wpFrom_end (by kernel_rfl) ?_
      refine Exit.then_normal (hK7 _ _ ?_)
      refine condT hE (by kernel_rfl) rfl ?_
      refine wp_seq_k (fun K hK10 => ?_)
      refine wp_region_from ?_
      refine segO 1 [] [(0, .kv .bool false)] (Os := []) trivial hE hH (by kernel_rfl) (fun a hE => ?_)
      refine wpFrom_end (by kernel_rfl) ?_
      refine Exit.then_normal (hK10 _ _ ?_)
      refine wp_ret ?_
      refine Exit.then_ret ?_
      cases h
      exact ret1 rfl hE hle hH (by kernel_rfl)
    · replace h := ifN hc h
      have hE := hE.setB 28 (by kernel_rfl) (bf hc)
      refine segO 1 [] [(29, .kv (.ptr 116) r5.1.1)] (Os := []) trivial hE hH (by kernel_rfl) (fun a hE => ?_)
      obtain ⟨r11, hr11, h⟩ := bs h
      refine stepCall (d := (some 30)) (f41_ok hr11) hE hH hN (by kernel_rfl) (by kernel_rfl) trivial (fun a w G hl4 hE hH => ?_)
      have hle := Gh.le_trans hle hl4
      refine segO 3 [] [(33, .kv .bool (r11.1 != 0))] (Os := []) trivial hE hH (by kernel_rfl) (fun a hE => ?_)
      by_cases hc : (r11.1 != 0) = true
      · replace h := ifT hc h
        have hE := hE.setB 33 (by kernel_rfl) hc
        refine segO 4 [] [(37, .kv .bool true)] (Os := []) trivial hE hH (by kernel_rfl) (fun a hE => ?_)
        refine wpFrom_end (by kernel_rfl) ?_
        refine Exit.then_normal (hK7 _ _ ?_)
        refine condT hE (by kernel_rfl) rfl ?_
        refine wp_seq_k (fun K hK12 => ?_)
        refine wp_region_from ?_
        refine segO 1 [] [(0, .kv .bool false)] (Os := []) trivial hE hH (by kernel_rfl) (fun a hE => ?_)
        refine wpFrom_end (by kernel_rfl) ?_
        refine Exit.then_normal (hK12 _ _ ?_)
        refine wp_ret ?_
        refine Exit.then_ret ?_
        cases h
        exact ret1 rfl hE hle hH (by kernel_rfl)
      · replace h := ifN hc h
        have hE := hE.setB 33 (by kernel_rfl) (bf hc)
        refine segO 1 [] [(34, .kv (.ptr 116) r5.1.1)] (Os := []) trivial hE hH (by kernel_rfl) (fun a hE => ?_)
        obtain ⟨r13, hr13, h⟩ := bs h
        refine stepCall (d := (some 35)) (f41_ok hr13) hE hH hN (by kernel_rfl) (by kernel_rfl) trivial (fun a w G hl5 hE hH => ?_)
        have hle := Gh.le_trans hle hl5
        refine segO 2 [] [(37, .kv .bool (r13.1 != 0))] (Os := []) trivial hE hH (by kernel_rfl) (fun a hE => ?_)
        refine wpFrom_end (by kernel_rfl) ?_
        refine Exit.then_normal (hK7 _ _ ?_)
        refine condE (b := r13.1 != 0) hE (by kernel_rfl) (fun hc => ?_) (fun hc => ?_)
        · replace h := ifT hc h
          refine wp_seq_k (fun K hK14 => ?_)
          refine wp_region_from ?_
          refine segO 1 [] [(0, .kv .bool false)] (Os := []) trivial hE hH (by kernel_rfl) (fun a hE => ?_)
          refine wpFrom_end (by kernel_rfl) ?_
          refine Exit.then_normal (hK14 _ _ ?_)
          refine wp_ret ?_
          refine Exit.then_ret ?_
          cases h
          exact ret1 rfl hE hle hH (by kernel_rfl)
        · replace h := ifF hc h
          refine wp_skip ?_
          refine Exit.then_normal (hK6 _ _ ?_)
          refine wp_seq_k (fun K hK15 => ?_)
          refine wp_region_from ?_
          refine segO 1 [] [(39, .kv (.ptr 116) r5.1.1)] (Os := []) trivial hE hH (by kernel_rfl) (fun a hE => ?_)
          obtain ⟨r16, hr16, h⟩ := bs h
          refine stepCall (d := (some 40)) (f43_ok hr16) hE hH hN (by kernel_rfl) (by kernel_rfl) trivial (fun a w G hl6 hE hH => ?_)
          have hle := Gh.le_trans hle hl6
          refine segO 7 [] [(5, .kv .i r16.1), (6, .kv .str r16.2.1), (7, .kv .i r16.2.2)] (Os := []) trivial hE hH (by kernel_rfl) (fun a hE => ?_)
          refine wpFrom_end (by kernel_rfl) ?_
          refine Exit.then_normal (hK15 _ _ ?_)
          refine wp_seq_k (fun K hK17 => ?_)
          refine wp_region_from ?_
          refine segO 11 [] [(54, .kv .bool (((r16.1 == 9) && (r16.2.1 == [99])) && (r16.2.2 == 0)))] (Os := []) trivial hE hH (by kernel_rfl) (fun a hE => ?_)
          by_cases hc : (((r16.1 == 9) && (r16.2.1 == [99])) && (r16.2.2 == 0)) = true
          · replace h := ifT hc h
            have hE := hE.setB 54 (by kernel_rfl) hc
            refine segO 1 [] [(55, .kv (.ptr 116) r5.1.1)] (Os := []) trivial hE hH (by kernel_rfl) (fun a hE => ?_)
            obtain ⟨r18, hr18, h⟩ := bs h
            refine stepCall (d := (some 56)) (f40_ok hr18) hE hH hN (by kernel_rfl) (by kernel_rfl) trivial (fun a w G hl7 hE hH => ?_)
            have hle := Gh.le_trans hle hl7
            refine stepBuildS (d := (some 57)) .i [5, 9] hE hH (by kernel_rfl) (by kernel_rfl) (fun a w G hl8 hE hH => ?_)
            have hle := Gh.le_trans hle hl8
            obtain ⟨r19, hr19, h⟩ := bs h
            refine stepCall (d := (some 58)) (f42_ok hr19) hE hH hN (by kernel_rfl) (by kernel_rfl) trivial (fun a w G hl9 hE hH => ?_)
            have hle := Gh.le_trans hle hl9
            refine segO 2 [] [(0, .kv .bool r19)] (Os := []) trivial hE hH (by kernel_rfl) (fun a hE => ?_)
            refine wpFrom_end (by kernel_rfl) ?_
            refine Exit.then_normal (hK17 _ _ ?_)
            refine wp_ret ?_
            cases h
            exact ret1 rfl hE hle hH (by kernel_rfl)
          · replace h := ifN hc h
            have hE := hE.setB 54 (by kernel_rfl) (bf hc)
            refine segO 6 [] [(0, .kv .bool false)] (Os := []) trivial hE hH (by kernel_rfl) (fun a hE => ?_)
            refine wpFrom_end (by kernel_rfl) ?_
            refine Exit.then_normal (hK17 _ _ ?_)
            refine wp_ret ?_
            cases h
            exact ret1 rfl hE hle hH (by kernel_rfl)

def f9_l0 (p0 : List K67.den) (r5 : ((Option Nat) × Int) × St) (x14 : Int) (x15 : Int) (σ16 : St) : Option (Sum (Int × Int × St) (Bool × St)) :=
  if ((decide (x15 < (p0.length : Int))) && (decide (x15 < 20))) = true then
  (ix p0 x15) >>= fun x25 =>
  if (decide ((x25.2.1.length : Int) > 3000)) = true then
  f9_l0 p0 r5 x14 (IntKind.wrap .i64 (x15 + 1)) σ16
  else
  f40 r5.1.1 σ16 >>= fun r30 =>
  f41 r5.1.1 x25.1 x25.2.1 σ16 >>= fun r32 =>
  if (decide (x25.1 < 0)) = true then
  if (r32.1 != 3) = true then
  some (.inr (false, r32.2))
  else
  f40 r5.1.1 r32.2 >>= fun r36 =>
  f42 r30 r36 >>= fun r37 =>
  if (!r37) = true then
  some (.inr (false, r32.2))
  else
  f9_l0 p0 r5 x14 (IntKind.wrap .i64 (x15 + 1)) r32.2
  else
  if (decide (x25.1 > 1099511627776)) = true then
  if (r32.1 != 3) = true then
  some (.inr (false, r32.2))
  else
  f40 r5.1.1 r32.2 >>= fun r41 =>
  f42 r30 r41 >>= fun r42 =>
  if (!r42) = true then
  some (.inr (false, r32.2))
  else
  f9_l0 p0 r5 x14 (IntKind.wrap .i64 (x15 + 1)) r32.2
  else
  if (decide (x25.1 ≤ x14)) = true then
  if (r32.1 != 9) = true then
  some (.inr (false, r32.2))
  else
  f40 r5.1.1 r32.2 >>= fun r47 =>
  f42 r30 r47 >>= fun r48 =>
  if (!r48) = true then
  some (.inr (false, r32.2))
  else
  f9_l0 p0 r5 x14 (IntKind.wrap .i64 (x15 + 1)) r32.2
  else
  f43 r5.1.1 r32.2 >>= fun r51 =>
  if ((r32.1 != 0) || (r51.2.2 != 0)) = true then
  some (.inr (false, r32.2))
  else
  if (r51.1 != x25.1) = true then
  some (.inr (false, r32.2))
  else
  if (!(r51.2.1 == x25.2.1)) = true then
  some (.inr (false, r32.2))
  else
  f40 r5.1.1 r32.2 >>= fun r57 =>
  if (decide ((r57.length : Int) > 2)) = true then
  some (.inr (false, r32.2))
  else
  f9_l0 p0 r5 x25.1 (IntKind.wrap .i64 (x15 + 1)) r32.2
  else
  some (.inl (x14, x15, σ16))
  partial_fixpoint

def f9 (p0 : List K67.den) (σ : St) : Option (Bool × St) :=
  f18 100000 σ >>= fun r3 =>
  f38 r3.1.1 [97, 108, 108] r3.2 >>= fun r5 =>
  if (((r3.1.2 != 0) || (r5.1.2 != 0)) || r5.1.1.isNone) = true then
  some (false, r5.2)
  else
  f39 r5.2 >>= fun r9 =>
  if (!r9.1) = true then
  some (false, r9.2)
  else
  f9_l0 p0 r5 (-1) 0 r9.2 >>= fun rr60 => (match rr60 with
  | .inr yy => some yy
  | .inl z59 =>
  some (true, z59.2.2))

theorem f9_ok {p0 : List K67.den} {σ : St} {p : Bool × St} (h : f9 p0 σ = some p) : Spec Try.prog 9 [.kv (.list K67) p0] (tabs σ) (.kv .bool p.1) (tabs p.2) := by
  refine Spec.intro Try.func9 (by kernel_rfl) rfl (by kernel_rfl) (fun a w G0 Ls hE hH hN => ?_)
  have hle : G0.le G0 := Gh.le_refl G0
  unfold f9 at h
  refine wp_seq_k (fun K hK1 => ?_)
  refine wp_region_from ?_
  refine segO 1 [] [(2, .kv .bool false)] (Os := []) trivial hE hH (by kernel_rfl) (fun a hE => ?_)
  refine wpFrom_end (by kernel_rfl) ?_
  refine Exit.then_normal (hK1 _ _ ?_)
  refine wp_seq_k (fun K hK2 => ?_)
  refine wp_region_from ?_
  obtain ⟨r3, hr3, h⟩ := bs h
  refine stepCall (d := (some 16)) (f18_ok hr3) hE hH hN (by kernel_rfl) (by kernel_rfl) trivial (fun a w G hl1 hE hH => ?_)
  have hle := Gh.le_trans hle hl1
  refine segO 5 [] [(3, .kv (.ptr 105) r3.1.1), (4, .kv .i r3.1.2)] (Os := []) trivial hE hH (by kernel_rfl) (fun a hE => ?_)
  refine wpFrom_end (by kernel_rfl) ?_
  refine Exit.then_normal (hK2 _ _ ?_)
  refine wp_seq_k (fun K hK4 => ?_)
  refine wp_region_from ?_
  refine segO 1 [] [(20, .kv (.ptr 105) r3.1.1)] (Os := []) trivial hE hH (by kernel_rfl) (fun a hE => ?_)
  obtain ⟨r5, hr5, h⟩ := bs h
  refine stepCall (d := (some 21)) (f38_ok hr5) hE hH hN (by kernel_rfl) (by kernel_rfl) trivial (fun a w G hl2 hE hH => ?_)
  have hle := Gh.le_trans hle hl2
  refine segO 5 [] [(5, .kv (.ptr 116) r5.1.1), (6, .kv .i r5.1.2)] (Os := []) trivial hE hH (by kernel_rfl) (fun a hE => ?_)
  refine wpFrom_end (by kernel_rfl) ?_
  refine Exit.then_normal (hK4 _ _ ?_)
  refine wp_seq_k (fun K hK6 => ?_)
  refine wp_seq_k (fun K hK7 => ?_)
  refine wp_region_from ?_
  refine segO 11 [] [(34, .kv .bool (((r3.1.2 != 0) || (r5.1.2 != 0)) || r5.1.1.isNone))] (Os := []) trivial hE hH (by kernel_rfl) (fun a hE => ?_)
  by_cases hc : (((r3.1.2 != 0) || (r5.1.2 != 0)) || r5.1.1.isNone) = true
  · replace h := ifT hc h
    have hE := hE.setB 34 (by kernel_rfl) hc
    refine segO 3 [] [(37, .kv .bool true)] (Os := []) trivial hE hH (by kernel_rfl) (fun a hE => ?_)
    refine wpFrom_end (by kernel_rfl) ?_
    refine Exit.then_normal (hK7 _ _ ?_)
    refine condT hE (by kernel_rfl) rfl ?_
    refine wp_seq_k (fun K hK8 => ?_)
    refine wp_region_from ?_
    refine segO 1 [] [(2, .kv .bool false)] (Os := []) trivial hE hH (by kernel_rfl) (fun a hE => ?_)
    refine wpFrom_end (by kernel_rfl) ?_
    refine Exit.then_normal (hK8 _ _ ?_)
    refine wp_ret ?_
    refine Exit.then_ret ?_
    cases h
    exact ret1 rfl hE hle hH (by kernel_rfl)
  · replace h := ifN hc h
    have hE := hE.setB 34 (by kernel_rfl) (bf hc)
    obtain ⟨r9, hr9, h⟩ := bs h
    refine stepCall (d := (some 35)) (f39_ok hr9) hE hH hN (by kernel_rfl) (by kernel_rfl) trivial (fun a w G hl3 hE hH => ?_)
    have hle := Gh.le_trans hle hl3
    refine segO 2 [] [(37, .kv .bool (!r9.1))] (Os := []) trivial hE hH (by kernel_rfl) (fun a hE => ?_)
    refine wpFrom_end (by kernel_rfl) ?_
    refine Exit.then_normal (hK7 _ _ ?_)
    refine condE (b := !r9.1) hE (by kernel_rfl) (fun hc => ?_) (fun hc => ?_)
    · replace h := ifT hc h
      refine wp_seq_k (fun K hK10 => ?_)
      refine wp_region_from ?_
      refine segO 1 [] [(2, .kv .bool false)] (Os := []) trivial hE hH (by kernel_rfl) (fun a hE => ?_)
      refine wpFrom_end (by kernel_rfl) ?_
      refine Exit.then_normal (hK10 _ _ ?_)
      refine wp_ret ?_
      refine Exit.then_ret ?_
      cases h
      exact ret1 rfl hE hle hH (by kernel_rfl)
    · replace h := ifF hc h
      refine wp_skip ?_
      refine Exit.then_normal (hK6 _ _ ?_)
      refine wp_seq_k (fun K hK11 => ?_)
      refine wp_region_from ?_
      refine segO 1 [] [(7, .kv .i (-1))] (Os := []) trivial hE hH (by kernel_rfl) (fun a hE => ?_)
      refine wpFrom_end (by kernel_rfl) ?_
      refine Exit.then_normal (hK11 _ _ ?_)
      refine wp_seq_k (fun K hK12 => ?_)
      refine wp_seq_k (fun K hK13 => ?_)
      refine wp_region_from ?_
      refine segO 1 [] [(8, .kv .i 0)] (Os := []) trivial hE hH (by kernel_rfl) (fun a hE => ?_)
      refine wpFrom_end (by kernel_rfl) ?_
      refine Exit.then_normal (hK13 _ _ ?_)
      refine wp_block ?_
      obtain ⟨rr60, hrr60, h⟩ := bs h
      refine loop_intro (fun Q17 c hQ hc => ?_)
      have key : ∀ (x14 : Int) (x15 : Int) (σ16 : St) (rr : Sum (Int × Int × St) (Bool × St)), f9_l0 p0 r5 x14 x15 σ16 = some rr → ∀ (a : Act) (w : World) (G : Gh), G0.le G → EnvR G 128 a [(0, .kv (.list K67) p0), (2, .kv .bool false), (5, .kv (.ptr 116) r5.1.1), (7, .kv .i x14), (8, .kv .i x15)] → Holds w G (tabs σ16) (Ls) → (∀ z59 : Int × Int × St, rr = .inl z59 → ∀ (a : Act) (w : World) (G : Gh), G0.le G → EnvR G 128 a [(0, .kv (.list K67) p0), (2, .kv .bool false), (5, .kv (.ptr 116) r5.1.1), (7, .kv .i z59.1), (8, .kv .i z59.2.1)] → Holds w G (tabs z59.2.2) (Ls) → Q17 (.exit 0) a w) → (∀ yy : Bool × St, rr = .inr yy → ∀ (a : Act) (w : World), PostB Try.prog Try.f9 G0 (.kv .bool yy.1) (tabs yy.2) Ls .ret a w → Q17 .ret a w) → Rnd Try.prog c Q17 a w := by
        refine f9_l0.partial_correctness p0 r5 _ ?_
        intro self ih20 x14 x15 σ16 rr h a w G  hle hE hH hx18 hret19
        refine rnd_step' hc ?_
        refine wp_seq_k (fun K hK21 => ?_)
        refine wp_seq_k (fun K hK22 => ?_)
        refine wp_region_from ?_
        refine segO 8 [] [(45, .kv .bool ((decide (x15 < (p0.length : Int))) && (decide (x15 < 20))))] (Os := []) trivial hE hH (by kernel_rfl) (fun a hE => ?_)
        refine wpFrom_end (by kernel_rfl) ?_
        refine Exit.then_normal (hK22 _ _ ?_)
        refine condE (b := (decide (x15 < (p0.length : Int))) && (decide (x15 < 20))) hE (by kernel_rfl) (fun hc => ?_) (fun hc => ?_)
        · replace h := ifT hc h
          refine wp_skip ?_
          refine Exit.then_normal (hK21 _ _ ?_)
          refine wp_seq_k (fun K hK23 => ?_)
          refine wp_block ?_
          refine wp_seq_k (fun K hK24 => ?_)
          refine wp_region_from ?_
          obtain ⟨x25, hx25, h⟩ := bs h
          refine segO 4 [.ix K67 x25] [(51, .kv K67 x25)] (Os := [_]) ⟨(IxAt.of (k := K67) hx25), trivial⟩ hE hH (by kernel_rfl) (fun a hE => ?_)
          refine stepAlloc (e := 67) (d := (some 9)) K67  hE hH (by kernel_rfl) (by kernel_rfl) (fun b26 a w G hl4 hE hH => ?_)
          have hle := Gh.le_trans hle hl4
          refine stepStB (b := b26) (off := 0) 0 K67 x25 (x' := x25) hE hH (by kernel_rfl) rfl (by kernel_rfl) (fun w G hl5 hE hH => ?_)
          have hle := Gh.le_trans hle hl5
          refine wpFrom_end (by kernel_rfl) ?_
          refine Exit.then_normal (hK24 _ _ ?_)
          refine wp_seq_k (fun K hK27 => ?_)
          refine wp_seq_k (fun K hK28 => ?_)
          refine wp_region_from ?_
          refine segO 4 [.bx 0 K67 x25] [(55, .kv .bool (decide ((x25.2.1.length : Int) > 3000)))] (Os := [_]) ⟨(rfl : (LS.box b26 K67 x25 :: Ls)[0]? = some (LS.box b26 K67 x25)), trivial⟩ hE hH (by kernel_rfl) (fun a hE => ?_)
          refine wpFrom_end (by kernel_rfl) ?_
          refine Exit.then_normal (hK28 _ _ ?_)
          refine condE (b := decide ((x25.2.1.length : Int) > 3000)) hE (by kernel_rfl) (fun hc => ?_) (fun hc => ?_)
          · replace h := ifT hc h
            refine wp_exit ?_
            refine Exit.then_exit ?_
            refine Exit.in_eq ?_
            refine Exit.then_normal (hK23 _ _ ?_)
            refine wp_region_from ?_
            refine segO 3 [] [(8, .kv .i (IntKind.wrap .i64 (x15 + 1)))] (Os := []) trivial hE hH (by kernel_rfl) (fun a hE => ?_)
            refine wpFrom_end (by kernel_rfl) ?_
            have hH := hH.drop (fun _ _ _ => rfl)
            refine Exit.then_normal ?_
            exact ih20 _ _ _ _ h _ _ _  hle (hE.subC (by kernel_rfl)) hH hx18 hret19
          · replace h := ifF hc h
            refine wp_skip ?_
            refine Exit.then_normal (hK27 _ _ ?_)
            refine wp_seq_k (fun K hK29 => ?_)
            refine wp_region_from ?_
            refine segO 1 [] [(56, .kv (.ptr 116) r5.1.1)] (Os := []) trivial hE hH (by kernel_rfl) (fun a hE => ?_)
            obtain ⟨r30, hr30, h⟩ := bs h
            refine stepCall (d := (some 57)) (f40_ok hr30) hE hH (NoHole.cons (fun _ _ _ => rfl) hN) (by kernel_rfl) (by kernel_rfl) trivial (fun a w G hl6 hE hH => ?_)
            have hle := Gh.le_trans hle hl6
            refine segO 1 [] [(10, .kv (.list .i) r30)] (Os := []) trivial hE hH (by kernel_rfl) (fun a hE => ?_)
            refine wpFrom_end (by kernel_rfl) ?_
            refine Exit.then_normal (hK29 _ _ ?_)
            refine wp_seq_k (fun K hK31 => ?_)
            refine wp_region_from ?_
            refine segO 5 [.bx 0 K67 x25, .bx 0 K67 x25] [(58, .kv (.ptr 116) r5.1.1), (60, .kv .i x25.1), (62, .kv .str x25.2.1)] (Os := [_, _]) ⟨(rfl : (LS.box b26 K67 x25 :: Ls)[0]? = some (LS.box b26 K67 x25)), (rfl : (LS.box b26 K67 x25 :: Ls)[0]? = some (LS.box b26 K67 x25)), trivial⟩ hE hH (by kernel_rfl) (fun a hE => ?_)
            obtain ⟨r32, hr32, h⟩ := bs h
            refine stepCall (d := (some 63)) (f41_ok hr32) hE hH (NoHole.cons (fun _ _ _ => rfl) hN) (by kernel_rfl) (by kernel_rfl) trivial (fun a w G hl7 hE hH => ?_)
            have hle := Gh.le_trans hle hl7
            refine segO 1 [] [(11, .kv .i r32.1)] (Os := []) trivial hE hH (by kernel_rfl) (fun a hE => ?_)
            refine wpFrom_end (by kernel_rfl) ?_
            refine Exit.then_normal (hK31 _ _ ?_)
            refine wp_block ?_
            refine wp_seq_k (fun K hK33 => ?_)
            refine wp_region_from ?_
            refine segO 4 [.bx 0 K67 x25] [(100, .kv .bool (decide (x25.1 < 0)))] (Os := [_]) ⟨(rfl : (LS.box b26 K67 x25 :: Ls)[0]? = some (LS.box b26 K67 x25)), trivial⟩ hE hH (by kernel_rfl) (fun a hE => ?_)
            by_cases hc : (decide (x25.1 < 0)) = true
            · replace h := ifT hc h
              have hE := hE.setB 100 (by kernel_rfl) hc
              refine segO 5 [] [(96, .kv .bool true)] (Os := []) trivial hE hH (by kernel_rfl) (fun a hE => ?_)
              refine wpFrom_end (by kernel_rfl) ?_
              refine Exit.then_normal (hK33 _ _ ?_)
              refine condT hE (by kernel_rfl) rfl ?_
              refine wp_seq_k (fun K hK34 => ?_)
              refine wp_region_from ?_
              refine segO 3 [] [(107, .kv .bool (r32.1 != 3))] (Os := []) trivial hE hH (by kernel_rfl) (fun a hE => ?_)
              by_cases hc : (r32.1 != 3) = true
              · replace h := ifT hc h
                have hE := hE.setB 107 (by kernel_rfl) hc
                refine segO 6 [] [(113, .kv .bool true)] (Os := []) trivial hE hH (by kernel_rfl) (fun a hE => ?_)
                refine wpFrom_end (by kernel_rfl) ?_
                refine Exit.then_normal (hK34 _ _ ?_)
                refine condT hE (by kernel_rfl) rfl ?_
                refine wp_seq_k (fun K hK35 => ?_)
                refine wp_region_from ?_
                refine segO 1 [] [(2, .kv .bool false)] (Os := []) trivial hE hH (by kernel_rfl) (fun a hE => ?_)
                refine wpFrom_end (by kernel_rfl) ?_
                refine Exit.then_normal (hK35 _ _ ?_)
                refine wp_ret ?_
                refine Exit.in_ret ?_
                refine Exit.in_ret ?_
                refine Exit.then_ret ?_
                refine Exit.then_ret ?_
                have hH := hH.drop (fun _ _ _ => rfl)
                cases h
                exact hret19 _ rfl _ _ (ret1 rfl hE hle hH (by kernel_rfl))
              · replace h := ifN hc h
                have hE := hE.setB 107 (by kernel_rfl) (bf hc)
                refine segO 2 [] [(108, .kv (.list .i) r30), (109, .kv (.ptr 116) r5.1.1)] (Os := []) trivial hE hH (by kernel_rfl) (fun a hE => ?_)
                obtain ⟨r36, hr36, h⟩ := bs h
                refine stepCall (d := (some 110)) (f40_ok hr36) hE hH (NoHole.cons (fun _ _ _ => rfl) hN) (by kernel_rfl) (by kernel_rfl) trivial (fun a w G hl8 hE hH => ?_)
                have hle := Gh.le_trans hle hl8
                obtain ⟨r37, hr37, h⟩ := bs h
                refine stepCall (d := (some 111)) (f42_ok hr37) hE hH (NoHole.cons (fun _ _ _ => rfl) hN) (by kernel_rfl) (by kernel_rfl) trivial (fun a w G hl9 hE hH => ?_)
                have hle := Gh.le_trans hle hl9
                refine segO 2 [] [(113, .kv .bool (!r37))] (Os := []) trivial hE hH (by kernel_rfl) (fun a hE => ?_)
                refine wpFrom_end (by kernel_rfl) ?_
                refine Exit.then_normal (hK34 _ _ ?_)
                refine condE (b := !r37) hE (by kernel_rfl) (fun hc => ?_) (fun hc => ?_)
                · replace h := ifT hc h
                  refine wp_seq_k (fun K hK38 => ?_)
                  refine wp_region_from ?_
                  refine segO 1 [] [(2, .kv .bool false)] (Os := []) trivial hE hH (by kernel_rfl) (fun a hE => ?_)
                  refine wpFrom_end (by kernel_rfl) ?_
                  refine Exit.then_normal (hK38 _ _ ?_)
                  refine wp_ret ?_
                  refine Exit.in_ret ?_
                  refine Exit.in_ret ?_
                  refine Exit.then_ret ?_
                  refine Exit.then_ret ?_
                  have hH := hH.drop (fun _ _ _ => rfl)
                  cases h
                  exact hret19 _ rfl _ _ (ret1 rfl hE hle hH (by kernel_rfl))
                · replace h := ifF hc h
                  refine wp_skip ?_
                  refine Exit.in_normal ?_
                  refine Exit.in_normal ?_
                  refine Exit.then_normal (hK23 _ _ ?_)
                  refine wp_region_from ?_
                  refine segO 3 [] [(8, .kv .i (IntKind.wrap .i64 (x15 + 1)))] (Os := []) trivial hE hH (by kernel_rfl) (fun a hE => ?_)
                  refine wpFrom_end (by kernel_rfl) ?_
                  have hH := hH.drop (fun _ _ _ => rfl)
                  refine Exit.then_normal ?_
                  exact ih20 _ _ _ _ h _ _ _  hle (hE.subC (by kernel_rfl)) hH hx18 hret19
            · replace h := ifN hc h
              have hE := hE.setB 100 (by kernel_rfl) (bf hc)
              refine segO 5 [.bx 0 K67 x25] [(96, .kv .bool (decide (x25.1 > 1099511627776)))] (Os := [_]) ⟨(rfl : (LS.box b26 K67 x25 :: Ls)[0]? = some (LS.box b26 K67 x25)), trivial⟩ hE hH (by kernel_rfl) (fun a hE => ?_)
              refine wpFrom_end (by kernel_rfl) ?_
              refine Exit.then_normal (hK33 _ _ ?_)
              refine condE (b := decide (x25.1 > 1099511627776)) hE (by kernel_rfl) (fun hc => ?_) (fun hc => ?_)
              · replace h := ifT hc h
                refine wp_seq_k (fun K hK39 => ?_)
                refine wp_region_from ?_
                refine segO 3 [] [(107, .kv .bool (r32.1 != 3))] (Os := []) trivial hE hH (by kernel_rfl) (fun a hE => ?_)
                by_cases hc : (r32.1 != 3) = true
                · replace h := ifT hc h
                  have hE := hE.setB 107 (by kernel_rfl) hc
                  refine segO 6 [] [(113, .kv .bool true)] (Os := []) trivial hE hH (by kernel_rfl) (fun a hE => ?_)
                  refine wpFrom_end (by kernel_rfl) ?_
                  refine Exit.then_normal (hK39 _ _ ?_)
                  refine condT hE (by kernel_rfl) rfl ?_
                  refine wp_seq_k (fun K hK40 => ?_)
                  refine wp_region_from ?_
                  refine segO 1 [] [(2, .kv .bool false)] (Os := []) trivial hE hH (by kernel_rfl) (fun a hE => ?_)
                  refine wpFrom_end (by kernel_rfl) ?_
                  refine Exit.then_normal (hK40 _ _ ?_)
                  refine wp_ret ?_
                  refine Exit.in_ret ?_
                  refine Exit.in_ret ?_
                  refine Exit.then_ret ?_
                  refine Exit.then_ret ?_
                  have hH := hH.drop (fun _ _ _ => rfl)
                  cases h
                  exact hret19 _ rfl _ _ (ret1 rfl hE hle hH (by kernel_rfl))
                · replace h := ifN hc h
                  have hE := hE.setB 107 (by kernel_rfl) (bf hc)
                  refine segO 2 [] [(108, .kv (.list .i) r30), (109, .kv (.ptr 116) r5.1.1)] (Os := []) trivial hE hH (by kernel_rfl) (fun a hE => ?_)
                  obtain ⟨r41, hr41, h⟩ := bs h
                  refine stepCall (d := (some 110)) (f40_ok hr41) hE hH (NoHole.cons (fun _ _ _ => rfl) hN) (by kernel_rfl) (by kernel_rfl) trivial (fun a w G hl10 hE hH => ?_)
                  have hle := Gh.le_trans hle hl10
                  obtain ⟨r42, hr42, h⟩ := bs h
                  refine stepCall (d := (some 111)) (f42_ok hr42) hE hH (NoHole.cons (fun _ _ _ => rfl) hN) (by kernel_rfl) (by kernel_rfl) trivial (fun a w G hl11 hE hH => ?_)
                  have hle := Gh.le_trans hle hl11
                  refine segO 2 [] [(113, .kv .bool (!r42))] (Os := []) trivial hE hH (by kernel_rfl) (fun a hE => ?_)
                  refine wpFrom_end (by kernel_rfl) ?_
                  refine Exit.then_normal (hK39 _ _ ?_)
                  refine condE (b := !r42) hE (by kernel_rfl) (fun hc => ?_) (fun hc => ?_)
                  · replace h := ifT hc h
                    refine wp_seq_k (fun K hK43 => ?_)
                    refine wp_region_from ?_
                    refine segO 1 [] [(2, .kv .bool false)] (Os := []) trivial hE hH (by kernel_rfl) (fun a hE => ?_)
                    refine wpFrom_end (by kernel_rfl) ?_
                    refine Exit.then_normal (hK43 _ _ ?_)
                    refine wp_ret ?_
                    refine Exit.in_ret ?_
                    refine Exit.in_ret ?_
                    refine Exit.then_ret ?_
                    refine Exit.then_ret ?_
                    have hH := hH.drop (fun _ _ _ => rfl)
                    cases h
                    exact hret19 _ rfl _ _ (ret1 rfl hE hle hH (by kernel_rfl))
                  · replace h := ifF hc h
                    refine wp_skip ?_
                    refine Exit.in_normal ?_
                    refine Exit.in_normal ?_
                    refine Exit.then_normal (hK23 _ _ ?_)
                    refine wp_region_from ?_
                    refine segO 3 [] [(8, .kv .i (IntKind.wrap .i64 (x15 + 1)))] (Os := []) trivial hE hH (by kernel_rfl) (fun a hE => ?_)
                    refine wpFrom_end (by kernel_rfl) ?_
                    have hH := hH.drop (fun _ _ _ => rfl)
                    refine Exit.then_normal ?_
                    exact ih20 _ _ _ _ h _ _ _  hle (hE.subC (by kernel_rfl)) hH hx18 hret19
              · replace h := ifF hc h
                refine wp_seq_k (fun K hK44 => ?_)
                refine wp_region_from ?_
                refine segO 5 [.bx 0 K67 x25] [(114, .kv .bool (decide (x25.1 ≤ x14)))] (Os := [_]) ⟨(rfl : (LS.box b26 K67 x25 :: Ls)[0]? = some (LS.box b26 K67 x25)), trivial⟩ hE hH (by kernel_rfl) (fun a hE => ?_)
                refine wpFrom_end (by kernel_rfl) ?_
                refine Exit.then_normal (hK44 _ _ ?_)
                refine condE (b := decide (x25.1 ≤ x14)) hE (by kernel_rfl) (fun hc => ?_) (fun hc => ?_)
                · replace h := ifT hc h
                  refine wp_seq_k (fun K hK45 => ?_)
                  refine wp_region_from ?_
                  refine segO 3 [] [(121, .kv .bool (r32.1 != 9))] (Os := []) trivial hE hH (by kernel_rfl) (fun a hE => ?_)
                  by_cases hc : (r32.1 != 9) = true
                  · replace h := ifT hc h
                    have hE := hE.setB 121 (by kernel_rfl) hc
                    refine segO 6 [] [(127, .kv .bool true)] (Os := []) trivial hE hH (by kernel_rfl) (fun a hE => ?_)
                    refine wpFrom_end (by kernel_rfl) ?_
                    refine Exit.then_normal (hK45 _ _ ?_)
                    refine condT hE (by kernel_rfl) rfl ?_
                    refine wp_seq_k (fun K hK46 => ?_)
                    refine wp_region_from ?_
                    refine segO 1 [] [(2, .kv .bool false)] (Os := []) trivial hE hH (by kernel_rfl) (fun a hE => ?_)
                    refine wpFrom_end (by kernel_rfl) ?_
                    refine Exit.then_normal (hK46 _ _ ?_)
                    refine wp_ret ?_
                    refine Exit.in_ret ?_
                    refine Exit.in_ret ?_
                    refine Exit.then_ret ?_
                    refine Exit.then_ret ?_
                    have hH := hH.drop (fun _ _ _ => rfl)
                    cases h
                    exact hret19 _ rfl _ _ (ret1 rfl hE hle hH (by kernel_rfl))
                  · replace h := ifN hc h
                    have hE := hE.setB 121 (by kernel_rfl) (bf hc)
                    refine segO 2 [] [(122, .kv (.list .i) r30), (123, .kv (.ptr 116) r5.1.1)] (Os := []) trivial hE hH (by kernel_rfl) (fun a hE => ?_)
                    obtain ⟨r47, hr47, h⟩ := bs h
                    refine stepCall (d := (some 124)) (f40_ok hr47) hE hH (NoHole.cons (fun _ _ _ => rfl) hN) (by kernel_rfl) (by kernel_rfl) trivial (fun a w G hl12 hE hH => ?_)
                    have hle := Gh.le_trans hle hl12
                    obtain ⟨r48, hr48, h⟩ := bs h
                    refine stepCall (d := (some 125)) (f42_ok hr48) hE hH (NoHole.cons (fun _ _ _ => rfl) hN) (by kernel_rfl) (by kernel_rfl) trivial (fun a w G hl13 hE hH => ?_)
                    have hle := Gh.le_trans hle hl13
                    refine segO 2 [] [(127, .kv .bool (!r48))] (Os := []) trivial hE hH (by kernel_rfl) (fun a hE => ?_)
                    refine wpFrom_end (by kernel_rfl) ?_
                    refine Exit.then_normal (hK45 _ _ ?_)
                    refine condE (b := !r48) hE (by kernel_rfl) (fun hc => ?_) (fun hc => ?_)
                    · replace h := ifT hc h
                      refine wp_seq_k (fun K hK49 => ?_)
                      refine wp_region_from ?_
                      refine segO 1 [] [(2, .kv .bool false)] (Os := []) trivial hE hH (by kernel_rfl) (fun a hE => ?_)
                      refine wpFrom_end (by kernel_rfl) ?_
                      refine Exit.then_normal (hK49 _ _ ?_)
                      refine wp_ret ?_
                      refine Exit.in_ret ?_
                      refine Exit.in_ret ?_
                      refine Exit.then_ret ?_
                      refine Exit.then_ret ?_
                      have hH := hH.drop (fun _ _ _ => rfl)
                      cases h
                      exact hret19 _ rfl _ _ (ret1 rfl hE hle hH (by kernel_rfl))
                    · replace h := ifF hc h
                      refine wp_skip ?_
                      refine Exit.in_normal ?_
                      refine Exit.in_normal ?_
                      refine Exit.then_normal (hK23 _ _ ?_)
                      refine wp_region_from ?_
                      refine segO 3 [] [(8, .kv .i (IntKind.wrap .i64 (x15 + 1)))] (Os := []) trivial hE hH (by kernel_rfl) (fun a hE => ?_)
                      refine wpFrom_end (by kernel_rfl) ?_
                      have hH := hH.drop (fun _ _ _ => rfl)
                      refine Exit.then_normal ?_
                      exact ih20 _ _ _ _ h _ _ _  hle (hE.subC (by kernel_rfl)) hH hx18 hret19
                · replace h := ifF hc h
                  refine wp_seq_k (fun K hK50 => ?_)
                  refine wp_region_from ?_
                  refine segO 1 [] [(65, .kv (.ptr 116) r5.1.1)] (Os := []) trivial hE hH (by kernel_rfl) (fun a hE => ?_)
                  obtain ⟨r51, hr51, h⟩ := bs h
                  refine stepCall (d := (some 66)) (f43_ok hr51) hE hH (NoHole.cons (fun _ _ _ => rfl) hN) (by kernel_rfl) (by kernel_rfl) trivial (fun a w G hl14 hE hH => ?_)
                  have hle := Gh.le_trans hle hl14
                  refine segO 7 [] [(12, .kv .i r51.1), (13, .kv .str r51.2.1), (14, .kv .i r51.2.2)] (Os := []) trivial hE hH (by kernel_rfl) (fun a hE => ?_)
                  refine wpFrom_end (by kernel_rfl) ?_
                  refine Exit.then_normal (hK50 _ _ ?_)
                  refine wp_seq_k (fun K hK52 => ?_)
                  refine wp_seq_k (fun K hK53 => ?_)
                  refine wp_region_from ?_
                  refine segO 7 [] [(76, .kv .bool ((r32.1 != 0) || (r51.2.2 != 0)))] (Os := []) trivial hE hH (by kernel_rfl) (fun a hE => ?_)
                  by_cases hc : ((r32.1 != 0) || (r51.2.2 != 0)) = true
                  · replace h := ifT hc h
                    have hE := hE.setB 76 (by kernel_rfl) hc
                    refine segO 17 [] [(93, .kv .bool true)] (Os := []) trivial hE hH (by kernel_rfl) (fun a hE => ?_)
                    refine wpFrom_end (by kernel_rfl) ?_
                    refine Exit.then_normal (hK53 _ _ ?_)
                    refine condT hE (by kernel_rfl) rfl ?_
                    refine wp_seq_k (fun K hK54 => ?_)
                    refine wp_region_from ?_
                    refine segO 1 [] [(2, .kv .bool false)] (Os := []) trivial hE hH (by kernel_rfl) (fun a hE => ?_)
                    refine wpFrom_end (by kernel_rfl) ?_
                    refine Exit.then_normal (hK54 _ _ ?_)
                    refine wp_ret ?_
                    refine Exit.then_ret ?_
                    refine Exit.in_ret ?_
                    refine Exit.in_ret ?_
                    refine Exit.then_ret ?_
                    refine Exit.then_ret ?_
                    have hH := hH.drop (fun _ _ _ => rfl)
                    cases h
                    exact hret19 _ rfl _ _ (ret1 rfl hE hle hH (by kernel_rfl))
                  · replace h := ifN hc h
                    have hE := hE.setB 76 (by kernel_rfl) (bf hc)
                    refine segO 6 [.bx 0 K67 x25] [(82, .kv .bool (r51.1 != x25.1))] (Os := [_]) ⟨(rfl : (LS.box b26 K67 x25 :: Ls)[0]? = some (LS.box b26 K67 x25)), trivial⟩ hE hH (by kernel_rfl) (fun a hE => ?_)
                    by_cases hc : (r51.1 != x25.1) = true
                    · replace h := ifT hc h
                      have hE := hE.setB 82 (by kernel_rfl) hc
                      refine segO 11 [] [(93, .kv .bool true)] (Os := []) trivial hE hH (by kernel_rfl) (fun a hE => ?_)
                      refine wpFrom_end (by kernel_rfl) ?_
                      refine Exit.then_normal (hK53 _ _ ?_)
                      refine condT hE (by kernel_rfl) rfl ?_
                      refine wp_seq_k (fun K hK55 => ?_)
                      refine wp_region_from ?_
                      refine segO 1 [] [(2, .kv .bool false)] (Os := []) trivial hE hH (by kernel_rfl) (fun a hE => ?_)
                      refine wpFrom_end (by kernel_rfl) ?_
                      refine Exit.then_normal (hK55 _ _ ?_)
                      refine wp_ret ?_
                      refine Exit.then_ret ?_
                      refine Exit.in_ret ?_
                      refine Exit.in_ret ?_
                      refine Exit.then_ret ?_
                      refine Exit.then_ret ?_
                      have hH := hH.drop (fun _ _ _ => rfl)
                      cases h
                      exact hret19 _ rfl _ _ (ret1 rfl hE hle hH (by kernel_rfl))
                    · replace h := ifN hc h
                      have hE := hE.setB 82 (by kernel_rfl) (bf hc)
                      refine segO 6 [.bx 0 K67 x25] [(88, .kv .bool (!(r51.2.1 == x25.2.1)))] (Os := [_]) ⟨(rfl : (LS.box b26 K67 x25 :: Ls)[0]? = some (LS.box b26 K67 x25)), trivial⟩ hE hH (by kernel_rfl) (fun a hE => ?_)
                      by_cases hc : (!(r51.2.1 == x25.2.1)) = true
                      · replace h := ifT hc h
                        have hE := hE.setB 88 (by kernel_rfl) hc
                        refine segO 5 [] [(93, .kv .bool true)] (Os := []) trivial hE hH (by kernel_rfl) (fun a hE => ?_)
                        refine wpFrom_end (by kernel_rfl) ?_
                        refine Exit.then_normal (hK53 _ _ ?_)
                        refine condT hE (by kernel_rfl) rfl ?_
                        refine wp_seq_k (fun K hK56 => ?_)
                        refine wp_region_from ?_
                        refine segO 1 [] [(2, .kv .bool false)] (Os := []) trivial hE hH (by kernel_rfl) (fun a hE => ?_)
                        refine wpFrom_end (by kernel_rfl) ?_
                        refine Exit.then_normal (hK56 _ _ ?_)
                        refine wp_ret ?_
                        refine Exit.then_ret ?_
                        refine Exit.in_ret ?_
                        refine Exit.in_ret ?_
                        refine Exit.then_ret ?_
                        refine Exit.then_ret ?_
                        have hH := hH.drop (fun _ _ _ => rfl)
                        cases h
                        exact hret19 _ rfl _ _ (ret1 rfl hE hle hH (by kernel_rfl))
                      · replace h := ifN hc h
                        have hE := hE.setB 88 (by kernel_rfl) (bf hc)
                        refine segO 1 [] [(89, .kv (.ptr 116) r5.1.1)] (Os := []) trivial hE hH (by kernel_rfl) (fun a hE => ?_)
                        obtain ⟨r57, hr57, h⟩ := bs h
                        refine stepCall (d := (some 90)) (f40_ok hr57) hE hH (NoHole.cons (fun _ _ _ => rfl) hN) (by kernel_rfl) (by kernel_rfl) trivial (fun a w G hl15 hE hH => ?_)
                        have hle := Gh.le_trans hle hl15
                        refine segO 3 [] [(93, .kv .bool (decide ((r57.length : Int) > 2)))] (Os := []) trivial hE hH (by kernel_rfl) (fun a hE => ?_)
                        refine wpFrom_end (by kernel_rfl) ?_
                        refine Exit.then_normal (hK53 _ _ ?_)
                        refine condE (b := decide ((r57.length : Int) > 2)) hE (by kernel_rfl) (fun hc => ?_) (fun hc => ?_)
                        · replace h := ifT hc h
                          refine wp_seq_k (fun K hK58 => ?_)
                          refine wp_region_from ?_
                          refine segO 1 [] [(2, .kv .bool false)] (Os := []) trivial hE hH (by kernel_rfl) (fun a hE => ?_)
                          refine wpFrom_end (by kernel_rfl) ?_
                          refine Exit.then_normal (hK58 _ _ ?_)
                          refine wp_ret ?_
                          refine Exit.then_ret ?_
                          refine Exit.in_ret ?_
                          refine Exit.in_ret ?_
                          refine Exit.then_ret ?_
                          refine Exit.then_ret ?_
                          have hH := hH.drop (fun _ _ _ => rfl)
                          cases h
                          exact hret19 _ rfl _ _ (ret1 rfl hE hle hH (by kernel_rfl))
                        · replace h := ifF hc h
                          refine wp_skip ?_
                          refine Exit.then_normal (hK52 _ _ ?_)
                          refine wp_region_from ?_
                          refine segO 3 [.bx 0 K67 x25] [(7, .kv .i x25.1)] (Os := [_]) ⟨(rfl : (LS.box b26 K67 x25 :: Ls)[0]? = some (LS.box b26 K67 x25)), trivial⟩ hE hH (by kernel_rfl) (fun a hE => ?_)
                          refine wpFrom_end (by kernel_rfl) ?_
                          refine Exit.in_normal ?_
                          refine Exit.in_normal ?_
                          refine Exit.then_normal (hK23 _ _ ?_)
                          refine wp_region_from ?_
                          refine segO 3 [] [(8, .kv .i (IntKind.wrap .i64 (x15 + 1)))] (Os := []) trivial hE hH (by kernel_rfl) (fun a hE => ?_)
                          refine wpFrom_end (by kernel_rfl) ?_
                          have hH := hH.drop (fun _ _ _ => rfl)
                          refine Exit.then_normal ?_
                          exact ih20 _ _ _ _ h _ _ _  hle (hE.subC (by kernel_rfl)) hH hx18 hret19
        · replace h := ifF hc h
          refine wp_exit ?_
          refine Exit.then_exit ?_
          refine Exit.then_exit ?_
          cases h
          exact hx18 _ rfl _ _ _  hle (hE.subC (by kernel_rfl)) hH
      refine key _ _ _ _ hrr60 _ _ _  hle (hE.subC (by kernel_rfl)) hH ?_ ?_
      · intro z59 hz a w G  hle hE hH
        subst hz
        rw [hQ]
        dsimp only at h
        refine Exit.in_eq ?_
        refine Exit.then_normal (hK12 _ _ ?_)
        refine wp_seq_k (fun K hK61 => ?_)
        refine wp_region_from ?_
        refine segO 1 [] [(2, .kv .bool true)] (Os := []) trivial hE hH (by kernel_rfl) (fun a hE => ?_)
        refine wpFrom_end (by kernel_rfl) ?_
        refine Exit.then_normal (hK61 _ _ ?_)
        refine wp_ret ?_
        cases h
        exact ret1 rfl hE hle hH (by kernel_rfl)
      · intro yy hz a w hp
        subst hz
        dsimp only at h
        cases h
        rw [hQ]
        refine Exit.in_ret ?_
        refine Exit.then_ret ?_
        exact hp
end Go.Proofs.Ytlfemhkabjafeaa.M
