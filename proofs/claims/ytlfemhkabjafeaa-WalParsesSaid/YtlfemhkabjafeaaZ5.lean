/- Own texts, laid together: V2 V5 V6 Y2 VW Y3 Y4 Y5 Y6 T5 Y7 Y8. -/
import Derived.Test.YtlfemhkabjafeaaProg
import Derived.Test.YtlfemhkabjafeaaZ1
import Derived.Test.YtlfemhkabjafeaaZ2
import Derived.Test.YtlfemhkabjafeaaZ3
import Derived.Test.YtlfemhkabjafeaaZ4
/- Plain law, part 2: a disk as a plain value, and what each call makes of it. -/
set_option linter.unusedVariables false
set_option linter.unusedSimpArgs false
namespace Go.Proofs.Ytlfemhkabjafeaa.M

/-- A file: its name, its safe bytes, others. -/
abbrev FR : Type := List UInt8 × List UInt8 × List UInt8 × Unit
/-- A disk: its room, its files by rising names, what it is armed to, is it down? -/
abbrev AD : Type := Int × List FR × Int × Bool × Unit
/-- A call: its kind, name, bytes, other name, number, what is kept. -/
abbrev AT : Type := Int × List UInt8 × List UInt8 × List UInt8 × Int × List Int × Unit

/-! ### Order of names -/
theorem u8_irrefl (a : UInt8) : ¬ a < a := UInt8.lt_irrefl a
theorem ltr {a b c : List UInt8} (h1 : a < b) (h2 : b < c) : a < c := List.lt_trans h1 h2
theorem lirr (a : List UInt8) : ¬ a < a := List.lt_irrefl a
theorem lne {a b : List UInt8} (h : a < b) : a ≠ b := fun e => lirr b (e ▸ h)
theorem ltri {a b : List UInt8} (h1 : ¬ a < b) (h2 : a ≠ b) : b < a := by
  have h : b ≤ a := List.not_lt.1 h1
  rcases List.le_iff_lt_or_eq.1 h with h | h
  · exact h
  · exact absurd h.symm h2

/-! ### Files -/
def fsize (f : FR) : Nat := f.2.1.length + f.2.2.1.length
def usedL : List FR → Nat
  | [] => 0
  | f :: r => fsize f + usedL r
def findL (s : List UInt8) : List FR → Option FR
  | [] => none
  | f :: r => cond (f.1 == s) (some f) (findL s r)
def setL (f : FR) : Bool → List FR → List FR
  | done, [] => cond done [] [f]
  | done, g :: r => (cond (!done && !decide (g.1 < f.1)) [f] []) ++ ((cond (g.1 == f.1) [] [g]) ++ setL f (done || !decide (g.1 < f.1)) r)
def dropL (s : List UInt8) : List FR → List FR
  | [] => []
  | f :: r => (cond (f.1 == s) [] [f]) ++ dropL s r

theorem usedL_append (l l' : List FR) : usedL (l ++ l') = usedL l + usedL l' := by
  induction l with
  | nil => simp [usedL]
  | cons f r ih => simp only [List.cons_append, usedL, ih]; omega

theorem usedL_perm {l l' : List FR} (h : l.Perm l') : usedL l = usedL l' := by
  induction h with
  | nil => rfl
  | cons f _ ih => simp [usedL, ih]
  | swap f g r => simp only [usedL]; omega
  | trans _ _ h1 h2 => rw [h1, h2]

theorem dropL_eq (s : List UInt8) (L : List FR) : dropL s L = L.filter (fun g => !(g.1 == s)) := by
  induction L with
  | nil => rfl
  | cons f r ih => 
    cases h : (f.1 == s)
    · rw [List.filter_cons_of_pos (by simp [h])]; simp [dropL, h, ih]
    · rw [List.filter_cons_of_neg (by simp [h])]; simp [dropL, h, ih]

theorem setL_true (f : FR) (L : List FR) : setL f true L = dropL f.1 L := by
  induction L with
  | nil => rfl
  | cons g r ih => simp [setL, dropL, ih]

theorem setL_perm (f : FR) (L : List FR) : (setL f false L).Perm (f :: dropL f.1 L) := by
  induction L with
  | nil => exact List.Perm.refl _
  | cons g r ih =>
    simp only [setL, dropL]
    by_cases h : g.1 < f.1
    · have hb : (g.1 == f.1) = false := by simpa using lne h
      simp only [h, decide_true, Bool.not_true, Bool.and_false, cond_false, hb, Bool.or_self, List.nil_append, List.singleton_append]
      exact (List.Perm.cons g ih).trans (List.Perm.swap f g _)
    · simp only [h, decide_false, Bool.not_false, Bool.and_self, cond_true, Bool.or_true, setL_true, List.singleton_append]
      exact List.Perm.refl _

theorem mem_dropL {s : List UInt8} {L : List FR} {g : FR} : g ∈ dropL s L ↔ g ∈ L ∧ g.1 ≠ s := by
  rw [dropL_eq, List.mem_filter]; simp

theorem mem_setL {f : FR} {L : List FR} {g : FR} : g ∈ setL f false L ↔ g = f ∨ (g ∈ L ∧ g.1 ≠ f.1) := by
  rw [(setL_perm f L).mem_iff, List.mem_cons, mem_dropL]

abbrev SortL (L : List FR) : Prop := L.Pairwise (fun f g => f.1 < g.1)

theorem SortL.drop {L : List FR} (h : SortL L) (s : List UInt8) : SortL (dropL s L) := by
  rw [dropL_eq]; exact h.filter _

theorem SortL.set {f : FR} {L : List FR} (h : SortL L) : SortL (setL f false L) := by
  induction L with
  | nil => simp [setL, SortL]
  | cons g r ih =>
    have hr := List.pairwise_cons.1 h
    simp only [setL]
    by_cases hg : g.1 < f.1
    · have hb : (g.1 == f.1) = false := by simpa using lne hg
      simp only [hg, decide_true, Bool.not_true, Bool.and_false, cond_false, hb, Bool.or_self, List.nil_append, List.singleton_append]
      refine List.pairwise_cons.2 ⟨fun x hx => ?_, ih hr.2⟩
      rcases mem_setL.1 hx with rfl | ⟨hx, _⟩
      · exact hg
      · exact hr.1 x hx
    · simp only [hg, decide_false, Bool.not_false, Bool.and_self, cond_true, Bool.or_true, setL_true, List.singleton_append]
      have hd : SortL (cond (g.1 == f.1) [] [g] ++ dropL f.1 r) := h.drop f.1
      refine List.pairwise_cons.2 ⟨fun x hx => ?_, hd⟩
      have hx' : x ∈ dropL f.1 (g :: r) := hx
      obtain ⟨hx1, hx2⟩ := mem_dropL.1 hx'
      rcases List.mem_cons.1 hx1 with rfl | hx1
      · exact ltri hg hx2
      · by_cases he : g.1 = f.1
        · rw [← he]; exact hr.1 x hx1
        · exact ltr (ltri hg he) (hr.1 x hx1)

theorem findL_some {s : List UInt8} {L : List FR} {f : FR} (h : findL s L = some f) : f ∈ L ∧ f.1 = s := by
  induction L with
  | nil => simp [findL] at h
  | cons g r ih =>
    simp only [findL] at h
    cases hg : (g.1 == s)
    · rw [hg] at h; obtain ⟨h1, h2⟩ := ih h; exact ⟨List.mem_cons_of_mem _ h1, h2⟩
    · rw [hg] at h; simp only [cond_true, Option.some.injEq] at h; subst h; exact ⟨List.mem_cons_self, by simpa using hg⟩

theorem findL_none {s : List UInt8} {L : List FR} (h : findL s L = none) : ∀ f ∈ L, f.1 ≠ s := by
  induction L with
  | nil => simp
  | cons g r ih =>
    simp only [findL] at h
    cases hg : (g.1 == s)
    · rw [hg] at h
      intro f hf
      rcases List.mem_cons.1 hf with rfl | hf
      · simpa using hg
      · exact ih h f hf
    · rw [hg] at h; simp at h

theorem findL_of {s : List UInt8} {L : List FR} (hs : SortL L) {f : FR} (h1 : f ∈ L) (h2 : f.1 = s) : findL s L = some f := by
  induction L with
  | nil => simp at h1
  | cons g r ih =>
    have hr := List.pairwise_cons.1 hs
    simp only [findL]
    rcases List.mem_cons.1 h1 with rfl | h1
    · simp [h2]
    · have : (g.1 == s) = false := by
        have := lne (hr.1 f h1); rw [h2] at this; simpa using this
      rw [this]; exact ih hr.2 h1

theorem findL_no {s : List UInt8} {L : List FR} (h : ∀ f ∈ L, f.1 ≠ s) : findL s L = none := by
  cases hf : findL s L with
  | none => rfl
  | some f => obtain ⟨h1, h2⟩ := findL_some hf; exact absurd h2 (h f h1)

theorem dropL_none {s : List UInt8} {L : List FR} (h : findL s L = none) : dropL s L = L := by
  rw [dropL_eq, List.filter_eq_self]
  intro f hf
  simpa using findL_none h f hf

theorem dropL_perm {s : List UInt8} {L : List FR} (hs : SortL L) {f : FR} (h : findL s L = some f) : L.Perm (f :: dropL s L) := by
  induction L with
  | nil => simp [findL] at h
  | cons g r ih =>
    have hr := List.pairwise_cons.1 hs
    simp only [findL] at h
    cases hg : (g.1 == s)
    · rw [hg] at h
      simp only [dropL, hg, cond_false, List.singleton_append]
      exact (List.Perm.cons g (ih hr.2 h)).trans (List.Perm.swap f g _)
    · rw [hg] at h; simp only [cond_true, Option.some.injEq] at h; subst h
      simp only [dropL, hg, cond_true, List.nil_append]
      have : dropL s r = r := by
        rw [dropL_eq, List.filter_eq_self]
        intro x hx
        have h1 := lne (hr.1 x hx)
        have h2 : g.1 = s := by simpa using hg
        rw [h2] at h1
        simpa using fun e => h1 e.symm
      rw [this]

theorem findL_set {f : FR} {L : List FR} (hs : SortL L) (s : List UInt8) : findL s (setL f false L) = if f.1 = s then some f else findL s L := by
  by_cases h : f.1 = s
  · rw [if_pos h]
    exact findL_of hs.set (mem_setL.2 (.inl rfl)) h
  · rw [if_neg h]
    cases hf : findL s L with
    | none => exact findL_no (fun g hg => by
        rcases mem_setL.1 hg with rfl | ⟨hg, _⟩
        · exact h
        · exact findL_none hf g hg)
    | some g =>
      obtain ⟨h1, h2⟩ := findL_some hf
      exact findL_of hs.set (mem_setL.2 (.inr ⟨h1, fun e => h (e.symm.trans h2)⟩)) h2

theorem findL_drop {t : List UInt8} {L : List FR} (hs : SortL L) (s : List UInt8) : findL s (dropL t L) = if t = s then none else findL s L := by
  by_cases h : t = s
  · rw [if_pos h]; subst h
    exact findL_no (fun g hg => (mem_dropL.1 hg).2)
  · rw [if_neg h]
    cases hf : findL s L with
    | none => exact findL_no (fun g hg => findL_none hf g (mem_dropL.1 hg).1)
    | some g =>
      obtain ⟨h1, h2⟩ := findL_some hf
      exact findL_of (hs.drop t) (mem_dropL.2 ⟨h1, fun e => h (e.symm.trans h2)⟩) h2

/-! ### What is kept in a crash -/
def keepN (keep : List Int) (n : Nat) : Nat := match keep with
  | [] => 0
  | x :: _ => (if 0 < x then Int.tmod x (n + 1) else 0).toNat

def crashL : List FR → List Int → List FR
  | [], _ => []
  | f :: r, keep => cond f.2.2.1.isEmpty ((f.1, f.2.1, [], ()) :: crashL r keep) ((f.1, f.2.1 ++ f.2.2.1.take (keepN keep f.2.2.1.length), [], ()) :: crashL r keep.tail)

theorem keepN_le (keep : List Int) (n : Nat) : keepN keep n ≤ n := by
  cases keep with
  | nil => simp [keepN]
  | cons x r =>
    simp only [keepN]
    split
    · have := Int.tmod_lt_of_pos x (b := (n : Int) + 1) (by omega)
      omega
    · simp

/-! ### Calls -/
def putA (A : AD) (L : List FR) : AD := (A.1, L, A.2.2.1, A.2.2.2.1, ())
def goesA (A : AD) : Bool × AD := if A.2.2.1 = 0 then (false, A) else (A.2.2.1 == 1, (A.1, A.2.1, A.2.2.1 - 1, A.2.2.1 == 1, ()))
def writeA (A : AD) (k : AD → AD) : Int × AD := if (goesA A).1 = true then (11, (goesA A).2) else (0, k (goesA A).2)
def emptyF (s : List UInt8) : FR := (s, [], [], ())
def moreF (f : FR) (b : List UInt8) : FR := (f.1, f.2.1, f.2.2.1 ++ b, ())
def safeF (s : List UInt8) (f : FR) : FR := (s, f.2.1 ++ f.2.2.1, [], ())
def cutF (s : List UInt8) (f : FR) (n : Nat) : FR := if n ≤ f.2.1.length then (s, f.2.1.take n, [], ()) else (s, f.2.1, f.2.2.1.take (n - f.2.1.length), ())
def nameF (s : List UInt8) (f : FR) : FR := (s, f.2.1, [], ())

abbrev full (A : AD) (s b : List UInt8) : Prop := ((findL s A.2.1).isNone = true ∧ 128 ≤ A.2.1.length) ∨ (65536 < b.length + fsize ((findL s A.2.1).getD (emptyF s))) ∨ A.1 < (b.length : Int) + usedL A.2.1

def appendA (A : AD) (s b : List UInt8) : Int × AD :=
  if A.2.2.2.1 = true then (11, A) else if okName s = false then (2, A) else
  if full A s b then (10, A) else
  writeA (putA A (setL (moreF ((findL s A.2.1).getD (emptyF s)) b) false A.2.1)) id

def someA (A : AD) (s : List UInt8) (k : FR → Int × AD) : Int × AD :=
  if A.2.2.2.1 = true then (11, A) else match findL s A.2.1 with
    | none => (8, A)
    | some f => k f

def syncA (A : AD) (s : List UInt8) : Int × AD := someA A s fun f => writeA A (fun B => putA B (setL (safeF s f) false B.2.1))
def truncA (A : AD) (s : List UInt8) (n : Int) : Int × AD := someA A s fun f => if n < 0 ∨ (fsize f : Int) < n then (3, A) else writeA A (fun B => putA B (setL (cutF s f n.toNat) false B.2.1))
def renameA (A : AD) (s t : List UInt8) : Int × AD :=
  if A.2.2.2.1 = true then (11, A) else if okName s = false then (2, A) else if okName t = false then (2, A) else
  someA A s fun f => if f.2.2.1 ≠ [] then (12, A) else writeA A (fun B => putA B (setL (nameF t f) false (dropL s B.2.1)))
def removeA (A : AD) (s : List UInt8) : Int × AD := someA A s fun _ => writeA A (fun B => putA B (dropL s B.2.1))
def armA (A : AD) (n : Int) : Int × AD := if A.2.2.2.1 = true then (11, A) else if n < 1 then (2, A) else (0, (A.1, A.2.1, n, A.2.2.2.1, ()))
def crashA (A : AD) (keep : List Int) : AD := (A.1, crashL A.2.1 keep, 0, false, ())
def readA (A : AD) (s : List UInt8) : List UInt8 × Int := if A.2.2.2.1 = true then ([], 11) else match findL s A.2.1 with
  | none => ([], 8)
  | some f => (f.2.1 ++ f.2.2.1, 0)
def safeA (A : AD) (s : List UInt8) : Int := match findL s A.2.1 with
  | none => 0
  | some f => (f.2.1.length : Int)
def doA (A : AD) (a : AT) : Int × AD :=
  if a.1 = 0 ∨ a.1 = 1 ∨ a.1 = 2 then appendA A a.2.1 a.2.2.1 else
  if a.1 = 3 then syncA A a.2.1 else
  if a.1 = 4 then truncA A a.2.1 a.2.2.2.2.1 else
  if a.1 = 5 then renameA A a.2.1 a.2.2.2.1 else
  if a.1 = 6 then removeA A a.2.1 else
  if a.1 = 7 then armA A a.2.2.2.2.1 else (0, crashA A a.2.2.2.2.2.1)

/-- What a disk is at any time. -/
structure OkA (A : AD) : Prop where
  sorted : SortL A.2.1
  files : A.2.1.length ≤ 128
  each : ∀ f ∈ A.2.1, fsize f ≤ 65536
  used : (usedL A.2.1 : Int) ≤ A.1
  room : A.1 ≤ 1048576
  armed : 0 ≤ A.2.2.1 ∧ A.2.2.1 < 9223372036854775808

/-- What comes in with a call. -/
structure OkT (a : AT) : Prop where
  name : a.2.1.length < 9223372036854775808
  to : a.2.2.2.1.length < 9223372036854775808
  n : -9223372036854775808 ≤ a.2.2.2.2.1 ∧ a.2.2.2.2.1 < 9223372036854775808

theorem OkA.goes {A : AD} (h : OkA A) : OkA (goesA A).2 := by
  unfold goesA
  split
  · exact h
  · obtain ⟨h1, h2, h3, h4, h5, h6⟩ := h
    exact ⟨h1, h2, h3, h4, h5, by have := h6; simp only; omega⟩

theorem goesA_L (A : AD) : (goesA A).2.2.1 = A.2.1 ∧ (goesA A).2.1 = A.1 := by
  unfold goesA; split <;> exact ⟨rfl, rfl⟩

theorem OkA.write {A : AD} (h : OkA A) {k : AD → AD} (hk : ∀ B, OkA B → B.2.1 = A.2.1 → B.1 = A.1 → OkA (k B)) : OkA (writeA A k).2 := by
  unfold writeA
  split
  · exact h.goes
  · exact hk _ h.goes (goesA_L A).1 (goesA_L A).2

theorem usedL_drop_le (s : List UInt8) (L : List FR) : usedL (dropL s L) ≤ usedL L := by
  induction L with
  | nil => exact Nat.le_refl _
  | cons f r ih =>
    simp only [dropL]
    cases (f.1 == s)
    · simp only [cond_false, List.singleton_append, usedL]; omega
    · simp only [cond_true, List.nil_append, usedL]; omega

theorem dropL_len_le (s : List UInt8) (L : List FR) : (dropL s L).length ≤ L.length := by
  rw [dropL_eq]; exact List.length_filter_le _ _

theorem setL_len (f : FR) (L : List FR) : (setL f false L).length = (dropL f.1 L).length + 1 := by
  rw [(setL_perm f L).length_eq]; rfl

theorem setL_used (f : FR) (L : List FR) : usedL (setL f false L) = fsize f + usedL (dropL f.1 L) := by
  rw [usedL_perm (setL_perm f L)]; rfl

/-- A file that is no greater than the one that it replaces. -/
theorem OkA.put {A : AD} (h : OkA A) {g f : FR} {s : List UInt8} (hf : findL s A.2.1 = some f) (hg : g.1 = s) (hle : fsize g ≤ fsize f) : OkA (putA A (setL g false A.2.1)) := by
  obtain ⟨h1, h2, h3, h4, h5, h6⟩ := h
  have hp := dropL_perm h1 hf
  have hl := hp.length_eq
  have hu := usedL_perm hp
  simp only [List.length_cons, usedL] at hl hu
  refine ⟨h1.set, ?_, ?_, ?_, h5, h6⟩
  · simp only [putA, setL_len, hg]; omega
  · intro x hx
    rcases mem_setL.1 hx with rfl | ⟨hx, _⟩
    · exact Nat.le_trans hle (h3 f (findL_some hf).1)
    · exact h3 x hx
  · simp only [putA, setL_used, hg]; omega

theorem OkA.dropped {A : AD} (h : OkA A) (s : List UInt8) : OkA (putA A (dropL s A.2.1)) := by
  obtain ⟨h1, h2, h3, h4, h5, h6⟩ := h
  have hl := dropL_len_le s A.2.1
  have hu := usedL_drop_le s A.2.1
  refine ⟨h1.drop s, ?_, ?_, ?_, h5, h6⟩
  · simp only [putA]; omega
  · intro x hx; exact h3 x (mem_dropL.1 hx).1
  · simp only [putA]; omega

theorem fsize_cut {s : List UInt8} {f : FR} {n : Nat} (h : n ≤ fsize f) : fsize (cutF s f n) = n := by
  unfold cutF fsize at *
  split <;> simp <;> omega

theorem crashL_len : ∀ (L : List FR) (keep : List Int), (crashL L keep).length = L.length
  | [], _ => rfl
  | f :: r, keep => by
    unfold crashL
    cases f.2.2.1.isEmpty
    · simp [crashL_len r]
    · simp [crashL_len r]

theorem crashL_names : ∀ (L : List FR) (keep : List Int), (crashL L keep).map (·.1) = L.map (·.1)
  | [], _ => rfl
  | f :: r, keep => by
    unfold crashL
    cases f.2.2.1.isEmpty
    · simp [crashL_names r]
    · simp [crashL_names r]

theorem crashL_used : ∀ (L : List FR) (keep : List Int), usedL (crashL L keep) ≤ usedL L
  | [], _ => Nat.le_refl _
  | f :: r, keep => by
    unfold crashL
    have h1 := crashL_used r keep
    have h2 := crashL_used r keep.tail
    cases f.2.2.1.isEmpty
    · simp only [cond_false, usedL, fsize, List.length_append, List.length_take, List.length_nil]; omega
    · simp only [cond_true, usedL, fsize, List.length_nil]; omega

theorem crashL_each {m : Nat} : ∀ (L : List FR) (keep : List Int), (∀ f ∈ L, fsize f ≤ m) → ∀ f ∈ crashL L keep, fsize f ≤ m
  | [], _, _ => by simp [crashL]
  | f :: r, keep, h => by
    have hf := h f List.mem_cons_self
    have h1 := crashL_each r keep (fun x hx => h x (List.mem_cons_of_mem _ hx))
    have h2 := crashL_each r keep.tail (fun x hx => h x (List.mem_cons_of_mem _ hx))
    unfold crashL
    unfold fsize at hf
    intro x hx
    cases hb : f.2.2.1.isEmpty
    · rw [hb] at hx
      simp only [cond_false, List.mem_cons] at hx
      rcases hx with rfl | hx
      · simp only [fsize, List.length_append, List.length_take, List.length_nil]; omega
      · exact h2 x hx
    · rw [hb] at hx
      simp only [cond_true, List.mem_cons] at hx
      rcases hx with rfl | hx
      · simp only [fsize, List.length_nil]; omega
      · exact h1 x hx

theorem SortL_names {L L' : List FR} (h : L.map (·.1) = L'.map (·.1)) (hs : SortL L) : SortL L' := by
  have h1 : (L.map (·.1)).Pairwise (· < ·) := List.pairwise_map.2 hs
  rw [h] at h1
  exact List.pairwise_map.1 h1

theorem OkA.crash {A : AD} (h : OkA A) (keep : List Int) : OkA (crashA A keep) := by
  obtain ⟨h1, h2, h3, h4, h5, h6⟩ := h
  have hl := crashL_len A.2.1 keep
  have hu := crashL_used A.2.1 keep
  refine ⟨SortL_names (crashL_names A.2.1 keep).symm h1, ?_, crashL_each _ _ h3, ?_, h5, ?_⟩
  · simp only [crashA]; omega
  · simp only [crashA]; omega
  · simp only [crashA]; omega

theorem OkA.appended {A : AD} (h : OkA A) {s b : List UInt8} (hc : ¬ full A s b) : OkA (putA A (setL (moreF ((findL s A.2.1).getD (emptyF s)) b) false A.2.1)) := by
  obtain ⟨h1, h2, h3, h4, h5, h6⟩ := h
  simp only [full, not_or, not_and, Nat.not_le, Nat.not_lt, Int.not_lt] at hc
  obtain ⟨c1, c2, c3⟩ := hc
  cases hf : findL s A.2.1 with
  | none =>
    rw [hf] at c1 c2
    have c1 := c1 rfl
    have hd := dropL_none hf
    have e1 : (moreF ((none : Option FR).getD (emptyF s)) b).1 = s := rfl
    refine ⟨h1.set, ?_, ?_, ?_, h5, h6⟩
    · simp only [putA, setL_len, e1, hd]; omega
    · intro x hx
      rcases mem_setL.1 hx with rfl | ⟨hx, _⟩
      · simp only [Option.getD_none, fsize, emptyF, moreF, List.length_append, List.length_nil] at c2 ⊢; omega
      · exact h3 x hx
    · simp only [putA, setL_used, e1, hd]
      simp only [Option.getD_none, fsize, emptyF, moreF, List.length_append, List.length_nil] at c2 ⊢; omega
  | some f =>
    rw [hf] at c1 c2
    have hn := (findL_some hf).2
    have hp := dropL_perm h1 hf
    have hl := hp.length_eq
    have hu := usedL_perm hp
    simp only [List.length_cons, usedL] at hl hu
    have e1 : (moreF ((some f).getD (emptyF s)) b).1 = s := hn
    refine ⟨h1.set, ?_, ?_, ?_, h5, h6⟩
    · simp only [putA, setL_len, e1]; omega
    · intro x hx
      rcases mem_setL.1 hx with rfl | ⟨hx, _⟩
      · simp only [Option.getD_some, fsize, moreF, List.length_append] at c2 ⊢; omega
      · exact h3 x hx
    · simp only [putA, setL_used, e1]
      simp only [Option.getD_some, fsize, moreF, List.length_append] at c2 hu ⊢; omega

theorem OkA.append {A : AD} (h : OkA A) (s b : List UInt8) : OkA (appendA A s b).2 := by
  unfold appendA
  split
  · exact h
  split
  · exact h
  split
  · exact h
  rename_i hc
  exact (h.appended hc).write (fun B hB _ _ => hB)

theorem OkA.some {A : AD} (h : OkA A) {s : List UInt8} {k : FR → Int × AD} (hk : ∀ f, findL s A.2.1 = .some f → OkA (k f).2) : OkA (someA A s k).2 := by
  unfold someA
  split
  · exact h
  split
  · exact h
  · rename_i f hf; exact hk f hf

theorem OkA.do {A : AD} (h : OkA A) {a : AT} (ha : OkT a) : OkA (doA A a).2 := by
  unfold doA
  split
  · exact h.append _ _
  split
  · refine h.some (fun f hf => h.write (fun B hB hL _ => ?_))
    refine hB.put (f := f) (s := a.2.1) (by rw [hL]; exact hf) rfl ?_
    simp [fsize, safeF]
  split
  · refine h.some (fun f hf => ?_)
    split
    · exact h
    · rename_i hc
      simp only [not_or, Int.not_lt] at hc
      refine h.write (fun B hB hL _ => ?_)
      refine hB.put (f := f) (s := a.2.1) (by rw [hL]; exact hf) (by unfold cutF; split <;> rfl) ?_
      rw [fsize_cut (by omega)]; omega
  split
  · unfold renameA
    split
    · exact h
    split
    · exact h
    split
    · exact h
    refine h.some (fun f hf => ?_)
    split
    · exact h
    rename_i hm
    simp only [ne_eq, Decidable.not_not] at hm
    refine h.write (fun B hB hL _ => ?_)
    rw [← hL] at hf
    have hp := dropL_perm hB.sorted hf
    have hl := hp.length_eq
    have hu := usedL_perm hp
    simp only [List.length_cons, usedL, fsize] at hl hu
    have hd := hB.dropped a.2.1
    have hl2 := dropL_len_le (nameF a.2.2.2.1 f).1 (dropL a.2.1 B.2.1)
    have hu2 := usedL_drop_le (nameF a.2.2.2.1 f).1 (dropL a.2.1 B.2.1)
    have hx1 := hB.files
    have hx2 := hB.used
    refine ⟨hd.sorted.set, ?_, ?_, ?_, hB.room, hB.armed⟩
    · simp only [putA, setL_len]; omega
    · intro x hx
      rcases mem_setL.1 hx with rfl | ⟨hx, _⟩
      · have := hB.each f (findL_some hf).1
        simp only [fsize, nameF, List.length_nil] at this ⊢; omega
      · exact hd.each x hx
    · have e : fsize (nameF a.2.2.2.1 f) ≤ f.2.1.length := by simp [fsize, nameF]
      simp only [putA, setL_used]; omega
  split
  · refine h.some (fun f hf => h.write (fun B hB hL _ => hB.dropped _))
  split
  · unfold armA
    split
    · exact h
    split
    · exact h
    · obtain ⟨h1, h2, h3, h4, h5, h6⟩ := h
      have := ha.n
      exact ⟨h1, h2, h3, h4, h5, by simp only; omega⟩
  · exact h.crash _
theorem used_id {A : AD} (hA : OkA A) : IntKind.wrap .i64 (A.1 - ((usedL A.2.1 : Nat) : Int)) = A.1 - ((usedL A.2.1 : Nat) : Int) := by
  have h1 := hA.used; have h2 := hA.room
  rw [wrap_id (by omega) (by omega)]

end Go.Proofs.Ytlfemhkabjafeaa.M

/- Plain law, part 5: how a disk lies in the tables, and what changes there make of it. -/
set_option linter.unusedVariables false
set_option linter.unusedSimpArgs false
namespace Go.Proofs.Ytlfemhkabjafeaa.M

/-- An entry of a disk's map. -/
abbrev ME : Type := List UInt8 × Option Nat

/-! ### A map's entries -/
section
variable {m : List ME} {s : List UInt8}

def Keys (m : List ME) : Prop := (m.map (·.1)).Nodup

theorem mapGet_cons (q : ME) (r : List ME) : mapGet .str (.ptr 108) s (q :: r) = cond (s == q.1) (some q.2) (mapGet .str (.ptr 108) s r) := by
  obtain ⟨k, v⟩ := q
  simp only [mapGet, keyEq]
  cases (s == k) <;> rfl

theorem mapGet_mem (hk : Keys m) {v : Option Nat} (h : (s, v) ∈ m) : mapGet .str (.ptr 108) s m = some v := by
  induction m with
  | nil => simp at h
  | cons q r ih =>
    rw [mapGet_cons]
    unfold Keys at hk
    rw [List.map_cons, List.nodup_cons] at hk
    rcases List.mem_cons.1 h with rfl | h
    · simp
    · have : (s == q.1) = false := by
        have : s ≠ q.1 := fun e => hk.1 (by rw [← e]; exact List.mem_map.2 ⟨_, h, rfl⟩)
        simpa using this
      rw [this]; exact ih hk.2 h

theorem mapGet_no (h : ∀ q ∈ m, q.1 ≠ s) : mapGet .str (.ptr 108) s m = none := by
  induction m with
  | nil => rfl
  | cons q r ih =>
    rw [mapGet_cons]
    have : (s == q.1) = false := by
      have := h q List.mem_cons_self
      simpa using fun e => this e.symm
    rw [this]; exact ih (fun q hq => h q (List.mem_cons_of_mem _ hq))

def others (s : List UInt8) (m : List ME) : List ME := m.filter (fun q => !(q.1 == s))

theorem others_self (h : ∀ q ∈ m, q.1 ≠ s) : others s m = m := by
  unfold others; rw [List.filter_eq_self]; intro q hq; simpa using h q hq

theorem mapSet_perm (hk : Keys m) (v : Option Nat) : (mapSet .str (.ptr 108) s v m).Perm ((s, v) :: others s m) := by
  induction m with
  | nil => exact List.Perm.refl _
  | cons q r ih =>
    obtain ⟨k, u⟩ := q
    unfold Keys at hk
    rw [List.map_cons, List.nodup_cons] at hk
    simp only [mapSet, keyEq]
    cases hs : (s == k) with
    | true =>
      have he : s = k := by simpa using hs
      subst he
      have : others s ((s, u) :: r) = r := by
        unfold others
        rw [List.filter_cons_of_neg (by simp)]
        exact others_self (fun q hq e => hk.1 (by rw [← e]; exact List.mem_map.2 ⟨q, hq, rfl⟩))
      rw [this]
    | false =>
      have : others s ((k, u) :: r) = (k, u) :: others s r := by
        unfold others
        rw [List.filter_cons_of_pos]
        have : s ≠ k := by simpa using hs
        simpa using fun e => this e.symm
      rw [this]
      exact (List.Perm.cons _ (ih hk.2)).trans (List.Perm.swap _ _ _)

theorem mapDel_eq (hk : Keys m) : mapDel .str (.ptr 108) s m = others s m := by
  induction m with
  | nil => rfl
  | cons q r ih =>
    obtain ⟨k, u⟩ := q
    unfold Keys at hk
    rw [List.map_cons, List.nodup_cons] at hk
    simp only [mapDel, keyEq]
    cases hs : (s == k) with
    | true =>
      have he : s = k := by simpa using hs
      subst he
      have : others s ((s, u) :: r) = r := by
        unfold others
        rw [List.filter_cons_of_neg (by simp)]
        exact others_self (fun q hq e => hk.1 (by rw [← e]; exact List.mem_map.2 ⟨q, hq, rfl⟩))
      rw [this]
    | false =>
      have : others s ((k, u) :: r) = (k, u) :: others s r := by
        unfold others
        rw [List.filter_cons_of_pos]
        have : s ≠ k := by simpa using hs
        simpa using fun e => this e.symm
      rw [this, ih hk.2]
end

/-! ### A disk in the tables -/
/-- A file, as it lies in the table of files. -/
def cont (f : FR) : denFs fs108 := (f.2.1 ++ f.2.2.1, (f.2.1.length : Int), ())
def entry (q : FR × Nat) : ME := (q.1.1, some q.2)
def rest (s : List UInt8) (qs : List (FR × Nat)) : List (FR × Nat) := qs.filter (fun q => !(q.1.1 == s))

structure DVq (σ : St) (d n0 : Nat) (A : AD) (o : denFs fs105) (qs : List (FR × Nat)) : Prop where
  ho : σ.t105[d]? = some o
  room : o.1 = A.1
  armed : o.2.2.1 = A.2.2.1
  down : o.2.2.2.1 = A.2.2.2.1
  map : o.2.1.Perm (qs.map entry)
  files : (qs.map (·.1)).Perm A.2.1
  nodup : (qs.map (·.2)).Nodup
  lie : ∀ q ∈ qs, σ.t108[q.2]? = some (cont q.1) ∧ n0 ≤ q.2
  base : n0 ≤ σ.t108.length

/-- The disk at a place lies there as this plain one. -/
def DV (σ : St) (d n0 : Nat) (A : AD) : Prop := ∃ o qs, DVq σ d n0 A o qs

/-- The tables that no disk turns. -/
def oth3 (σ : St) := (σ.t116, σ.t128, σ.t130)

/-- What a call on a disk leaves as it was. -/
structure Fr (σ σ' : St) (d n0 : Nat) : Prop where
  oth : oth3 σ' = oth3 σ
  t47 : σ'.t47 = σ.t47
  t105 : ∀ i, i ≠ d → i < σ.t105.length → σ'.t105[i]? = σ.t105[i]?
  l105 : σ.t105.length ≤ σ'.t105.length
  t108 : ∀ j, j < n0 → σ'.t108[j]? = σ.t108[j]?
  l108 : σ.t108.length ≤ σ'.t108.length

theorem Fr.refl (σ : St) (d n0 : Nat) : Fr σ σ d n0 := ⟨rfl, rfl, fun _ _ _ => rfl, Nat.le_refl _, fun _ _ => rfl, Nat.le_refl _⟩
theorem Fr.trans {σ σ' σ'' : St} {d n0 : Nat} (h1 : Fr σ σ' d n0) (h2 : Fr σ' σ'' d n0) : Fr σ σ'' d n0 :=
  ⟨h2.oth.trans h1.oth, h2.t47.trans h1.t47, fun i hi hl => (h2.t105 i hi (Nat.lt_of_lt_of_le hl h1.l105)).trans (h1.t105 i hi hl), Nat.le_trans h1.l105 h2.l105, fun j hj => (h2.t108 j hj).trans (h1.t108 j hj), Nat.le_trans h1.l108 h2.l108⟩

section
variable {σ : St} {d n0 : Nat} {A : AD} {o : denFs fs105} {qs : List (FR × Nat)}

theorem DVq.same (h : DVq σ d n0 A o qs) {σ' : St} (h1 : σ'.t105 = σ.t105) (h2 : σ'.t108 = σ.t108) : DVq σ' d n0 A o qs := by
  obtain ⟨a1, a2, a3, a4, a5, a6, a7, a8, a9⟩ := h
  exact ⟨by rw [h1]; exact a1, a2, a3, a4, a5, a6, a7, by rw [h2]; exact a8, by rw [h2]; exact a9⟩

theorem DVq.names (h : DVq σ d n0 A o qs) (hs : SortL A.2.1) : (qs.map (fun q => q.1.1)).Nodup := by
  have h1 : (A.2.1.map (·.1)).Nodup := by
    have : (A.2.1.map (·.1)).Pairwise (· < ·) := List.pairwise_map.2 hs
    exact this.imp (fun h => lne h)
  have h2 := (h.files.map (·.1)).nodup_iff.2 h1
  rw [List.map_map] at h2
  exact h2

theorem DVq.keys (h : DVq σ d n0 A o qs) (hs : SortL A.2.1) : Keys o.2.1 := by
  unfold Keys
  refine (h.map.map (·.1)).nodup_iff.2 ?_
  rw [List.map_map]
  exact h.names hs

theorem DVq.len (h : DVq σ d n0 A o qs) : o.2.1.length = A.2.1.length := by
  have h1 := h.map.length_eq
  have h2 := h.files.length_eq
  simp only [List.length_map] at h1 h2
  omega

theorem DVq.look (h : DVq σ d n0 A o qs) (hs : SortL A.2.1) (s : List UInt8) :
    (findL s A.2.1 = none ∧ mapGet .str (.ptr 108) s o.2.1 = none ∧ ∀ q ∈ qs, q.1.1 ≠ s) ∨ ∃ f j, findL s A.2.1 = some f ∧ mapGet .str (.ptr 108) s o.2.1 = some (some j) ∧ (f, j) ∈ qs ∧ f.1 = s ∧ σ.t108[j]? = some (cont f) := by
  cases hf : findL s A.2.1 with
  | none =>
    have hq : ∀ q ∈ qs, q.1.1 ≠ s := fun q hq => findL_none hf q.1 (h.files.mem_iff.1 (List.mem_map.2 ⟨q, hq, rfl⟩))
    refine .inl ⟨rfl, mapGet_no (fun q hq2 => ?_), hq⟩
    obtain ⟨p, hp, rfl⟩ := List.mem_map.1 (h.map.mem_iff.1 hq2)
    exact hq p hp
  | some f =>
    obtain ⟨h1, h2⟩ := findL_some hf
    obtain ⟨q, hq, rfl⟩ := List.mem_map.1 (h.files.mem_iff.2 h1)
    refine .inr ⟨q.1, q.2, rfl, mapGet_mem (h.keys hs) ?_, hq, h2, (h.lie q hq).1⟩
    refine h.map.mem_iff.2 (List.mem_map.2 ⟨q, hq, ?_⟩)
    unfold entry; rw [h2]

theorem rest_none {s : List UInt8} (h : ∀ q ∈ qs, q.1.1 ≠ s) : rest s qs = qs := by
  unfold rest; rw [List.filter_eq_self]; intro q hq; simpa using h q hq

theorem rest_perm {f : FR} {j : Nat} (hn : (qs.map (fun q => q.1.1)).Nodup) (hq : (f, j) ∈ qs) : qs.Perm ((f, j) :: rest f.1 qs) := by
  induction qs with
  | nil => simp at hq
  | cons p r ih =>
    rw [List.map_cons, List.nodup_cons] at hn
    rcases List.mem_cons.1 hq with rfl | hq
    · have : rest f.1 ((f, j) :: r) = r := by
        unfold rest
        rw [List.filter_cons_of_neg (by simp)]
        exact rest_none (fun q hq e => hn.1 (by rw [← e]; exact List.mem_map.2 ⟨q, hq, rfl⟩))
      rw [this]
    · have : rest f.1 (p :: r) = p :: rest f.1 r := by
        unfold rest
        rw [List.filter_cons_of_pos]
        have : p.1.1 ≠ f.1 := fun e => hn.1 (by rw [e]; exact List.mem_map.2 ⟨(f, j), hq, rfl⟩)
        simpa using this
      rw [this]
      exact (List.Perm.cons _ (ih hn.2 hq)).trans (List.Perm.swap _ _ _)

theorem rest_map (s : List UInt8) : (rest s qs).map entry = others s (qs.map entry) := by
  unfold rest others
  rw [List.filter_map]
  rfl

theorem rest_fst (s : List UInt8) : (rest s qs).map (·.1) = dropL s (qs.map (·.1)) := by
  unfold rest
  rw [dropL_eq, List.filter_map]
  rfl

theorem dropL_congr {s : List UInt8} {L L' : List FR} (h : L.Perm L') : (dropL s L).Perm (dropL s L') := by
  rw [dropL_eq, dropL_eq]; exact h.filter _

theorem mem_rest {s : List UInt8} {q : FR × Nat} : q ∈ rest s qs ↔ q ∈ qs ∧ q.1.1 ≠ s := by
  unfold rest; rw [List.mem_filter]; simp

theorem DVq.perm (h : DVq σ d n0 A o qs) {L : List FR} (hL : A.2.1.Perm L) : DVq σ d n0 (putA A L) o qs := by
  obtain ⟨a1, a2, a3, a4, a5, a6, a7, a8, a9⟩ := h
  exact ⟨a1, a2, a3, a4, a5, a6.trans hL, a7, a8, a9⟩

theorem cons_set {g : FR} {L L' : List FR} (h : L.Perm (dropL g.1 L')) : (g :: L).Perm (setL g false L') :=
  (List.Perm.cons g h).trans (setL_perm g L').symm

/-- Other bytes in a file. -/
theorem DVq.upd (h : DVq σ d n0 A o qs) (hs : SortL A.2.1) {f g : FR} {j : Nat} (hq : (f, j) ∈ qs) (hg : g.1 = f.1) :
    DVq (σ.set108 j (cont g)) d n0 (putA A (setL g false A.2.1)) o ((g, j) :: rest f.1 qs) := by
  have hp := rest_perm (h.names hs) hq
  have hj := (h.lie _ hq).1
  have hnd : (j :: (rest f.1 qs).map (fun q => q.2)).Nodup := (hp.map (fun q : FR × Nat => q.2)).nodup_iff.1 h.nodup
  refine ⟨h.ho, h.room, h.armed, h.down, ?_, ?_, hnd, ?_, ?_⟩
  · refine h.map.trans ((hp.map entry).trans ?_)
    rw [List.map_cons, List.map_cons]
    have : entry (g, j) = entry (f, j) := by unfold entry; rw [hg]
    rw [this]
  · rw [List.map_cons, rest_fst, ← hg]
    exact cons_set (dropL_congr h.files)
  · intro q hq2
    rcases List.mem_cons.1 hq2 with rfl | hq2
    · exact ⟨set108_get hj, (h.lie _ hq).2⟩
    · have hne : j ≠ q.2 := fun e => (List.nodup_cons.1 hnd).1 (by rw [e]; exact List.mem_map.2 ⟨q, hq2, rfl⟩)
      obtain ⟨e1, e2⟩ := h.lie q (mem_rest.1 hq2).1
      refine ⟨?_, e2⟩
      simp only [St.set108]
      rw [List.getElem?_set_ne hne]; exact e1
  · simpa [St.set108] using h.base

theorem frame108 {j : Nat} {x : denFs fs108} (hj : n0 ≤ j) : Fr σ (σ.set108 j x) d n0 := by
  refine ⟨rfl, rfl, fun _ _ _ => rfl, Nat.le_refl _, fun i hi => ?_, by simp [St.set108]⟩
  simp only [St.set108]
  rw [List.getElem?_set_ne (by omega)]

theorem frame105 {x : denFs fs105} : Fr σ (σ.set105 d x) d n0 := by
  refine ⟨rfl, rfl, fun i hi _ => ?_, by simp [St.set105], fun _ _ => rfl, Nat.le_refl _⟩
  simp only [St.set105]
  rw [List.getElem?_set_ne (Ne.symm hi)]

theorem frame_add108 {x : denFs fs108} (hb : n0 ≤ σ.t108.length) : Fr σ (σ.add108 x) d n0 := by
  refine ⟨rfl, rfl, fun _ _ _ => rfl, Nat.le_refl _, fun j hj => ?_, by simp [St.add108]⟩
  simp only [St.add108]
  rw [List.getElem?_append_left (by omega)]

/-- Another file at a name. -/
theorem DVq.link (h : DVq σ d n0 A o qs) (hs : SortL A.2.1) {g : FR} {j : Nat} (hj : j ∉ qs.map (·.2)) (hc : σ.t108[j]? = some (cont g)) (hb : n0 ≤ j) :
    DVq (σ.set105 d (o.1, mapSet .str (.ptr 108) g.1 (some j) o.2.1, o.2.2.1, o.2.2.2.1, ())) d n0 (putA A (setL g false A.2.1)) (o.1, mapSet .str (.ptr 108) g.1 (some j) o.2.1, o.2.2.1, o.2.2.2.1, ()) ((g, j) :: rest g.1 qs) := by
  refine ⟨set105_get h.ho, h.room, h.armed, h.down, ?_, ?_, ?_, ?_, h.base⟩
  · refine (mapSet_perm (h.keys hs) (some j)).trans ?_
    rw [List.map_cons, rest_map]
    exact List.Perm.cons _ (h.map.filter _)
  · rw [List.map_cons, rest_fst]
    exact cons_set (dropL_congr h.files)
  · rw [List.map_cons, List.nodup_cons]
    refine ⟨fun hm => hj ?_, (List.filter_sublist.map _).nodup h.nodup⟩
    obtain ⟨q, hq, e⟩ := List.mem_map.1 hm
    exact List.mem_map.2 ⟨q, (mem_rest.1 hq).1, e⟩
  · intro q hq
    rcases List.mem_cons.1 hq with rfl | hq
    · exact ⟨hc, hb⟩
    · exact h.lie q (mem_rest.1 hq).1

/-- A name taken away. -/
theorem DVq.unlink (h : DVq σ d n0 A o qs) (hs : SortL A.2.1) (s : List UInt8) :
    DVq (σ.set105 d (o.1, mapDel .str (.ptr 108) s o.2.1, o.2.2.1, o.2.2.2.1, ())) d n0 (putA A (dropL s A.2.1)) (o.1, mapDel .str (.ptr 108) s o.2.1, o.2.2.1, o.2.2.2.1, ()) (rest s qs) := by
  refine ⟨set105_get h.ho, h.room, h.armed, h.down, ?_, ?_, ?_, ?_, h.base⟩
  · show (mapDel .str (.ptr 108) s o.2.1).Perm _
    rw [mapDel_eq (h.keys hs), rest_map]
    exact h.map.filter _
  · rw [rest_fst]; exact dropL_congr h.files
  · exact (List.filter_sublist.map _).nodup h.nodup
  · intro q hq
    exact h.lie q (mem_rest.1 hq).1

theorem DVq.state (h : DVq σ d n0 A o qs) {a : Int} {b : Bool} : DVq (σ.set105 d (o.1, o.2.1, a, b, ())) d n0 (A.1, A.2.1, a, b, ()) (o.1, o.2.1, a, b, ()) qs :=
  ⟨set105_get h.ho, h.room, rfl, rfl, h.map, h.files, h.nodup, h.lie, h.base⟩

/-! ### What is read -/
theorem used_entries : ∀ {qs : List (FR × Nat)}, (∀ q ∈ qs, σ.t108[q.2]? = some (cont q.1)) → usedS (qs.map entry) σ = some (usedL (qs.map (·.1)))
  | [], _ => rfl
  | q :: r, h => by
    refine usedS_cons.2 ⟨q.2, cont q.1, usedL (r.map (·.1)), rfl, h q List.mem_cons_self, used_entries (fun p hp => h p (List.mem_cons_of_mem _ hp)), ?_⟩
    simp [usedL, fsize, cont]

theorem f20_eq (h : DVq σ d n0 A o qs) (hA : OkA A) : f20 (some d) σ = some ((usedL A.2.1 : Nat) : Int) := by
  unfold f20
  have h1 := used_entries (σ := σ) (qs := qs) (fun q hq => (h.lie q hq).1)
  have h2 := usedS_perm h.map.symm h1
  rw [usedL_perm h.files] at h2
  have h3 := hA.used; have h4 := hA.room
  simp [h.ho, h2]
  rw [wrap_id (by omega) (by omega)]

theorem sorted_eq {l l' : List (List UInt8)} (h : l.Perm l') (hs : l'.Pairwise (· < ·)) : sorted l = l' := by
  unfold sorted
  have hp := (List.mergeSort_perm l (fun x y => decide (x ≤ y))).trans h
  refine hp.eq_of_pairwise (le := fun x y => x ≤ y) ?_ ?_ ?_
  · intro a b _ _ h1 h2; exact List.le_antisymm h1 h2
  · have := List.pairwise_mergeSort (le := fun x y : List UInt8 => decide (x ≤ y)) (fun a b c h1 h2 => by simp only [decide_eq_true_eq] at *; exact List.le_trans h1 h2) (fun a b => by simp only [Bool.or_eq_true, decide_eq_true_eq]; exact List.le_total a b) l
    exact this.imp (fun h => by simpa using h)
  · exact hs.imp (fun h => List.le_of_lt h)

theorem f21_eq (h : DVq σ d n0 A o qs) (hA : OkA A) : f21 (some d) σ = some (A.2.1.map (·.1)) := by
  unfold f21
  have hl := h.len
  have hf := hA.files
  have hp : (o.2.1.map (·.1)).Perm (A.2.1.map (·.1)) := by
    refine (h.map.map (·.1)).trans ?_
    rw [List.map_map]
    have := h.files.map (·.1)
    rw [List.map_map] at this
    exact this
  have hs := sorted_eq hp (List.pairwise_map.2 hA.sorted)
  have hg : (o.2.1.length + 1) * 16 ≤ 140737488355328 := by omega
  simp [h.ho, hs, hg]

theorem f70_eq (h : DVq σ d n0 A o qs) : f70 (some d) σ = some (if A.2.2.2.1 = true then 11 else 0) := by
  unfold f70
  have := h.down
  simp only [h.ho, Option.isNone_some, Option.bind_eq_bind, Option.bind_some, this]
  rw [if_neg (by decide)]
  split <;> rfl

/-- Is it found? -/
theorem f77_cases (h : DVq σ d n0 A o qs) (hA : OkA A) (s : List UInt8) :
    (A.2.2.2.1 = true ∧ f77 (some d) s σ = some (none, 11)) ∨ (A.2.2.2.1 = false ∧ ((findL s A.2.1 = none ∧ f77 (some d) s σ = some (none, 8)) ∨ ∃ f j, findL s A.2.1 = some f ∧ (f, j) ∈ qs ∧ f.1 = s ∧ σ.t108[j]? = some (cont f) ∧ mapGet .str (.ptr 108) s o.2.1 = some (some j) ∧ f77 (some d) s σ = some (some j, 0))) := by
  unfold f77
  rw [f70_eq h]
  simp only [h.ho, Option.bind_eq_bind, Option.bind_some]
  cases hd : A.2.2.2.1 with
  | true => exact .inl ⟨rfl, by simp⟩
  | false =>
    refine .inr ⟨rfl, ?_⟩
    rcases h.look hA.sorted s with ⟨h1, h2, _⟩ | ⟨f, j, h1, h2, h3, h4, h5⟩
    · exact .inl ⟨h1, by simp [h2, zeroK]⟩
    · exact .inr ⟨f, j, h1, h3, h4, h5, h2, by simp [h2]⟩

theorem f28_eq (h : DVq σ d n0 A o qs) (hA : OkA A) (s : List UInt8) : f28 (some d) s σ = some (readA A s) := by
  unfold f28 readA
  rcases f77_cases h hA s with ⟨h1, h2⟩ | ⟨h1, ⟨h2, h3⟩ | ⟨f, j, h2, h3, h4, h5, _, h6⟩⟩
  · simp [h1, h2]
  · simp [h1, h2, h3]
  · simp [h1, h2, h6, h5, cont]

theorem f30_eq (h : DVq σ d n0 A o qs) (hA : OkA A) (s : List UInt8) : f30 (some d) s σ = some (safeA A s) := by
  unfold f30 safeA
  simp only [h.ho, Option.isNone_some, Option.bind_eq_bind, Option.bind_some]
  rw [if_neg (by decide)]
  rcases h.look hA.sorted s with ⟨h1, h2, _⟩ | ⟨f, j, h1, h2, h3, h4, h5⟩
  · simp [h1, h2, zeroK]
  · simp [h1, h2, h5, cont]

theorem f31_eq (h : DVq σ d n0 A o qs) : f31 (some d) σ = some A.2.2.2.1 := by
  unfold f31
  simp [h.ho, h.down]
end
end Go.Proofs.Ytlfemhkabjafeaa.M

/- Plain law, part 6: the calls of a disk. -/
set_option linter.unusedVariables false
set_option linter.unusedSimpArgs false
namespace Go.Proofs.Ytlfemhkabjafeaa.M

/-- All but the table of disks. -/
def Oth (σ σ1 : St) : Prop := σ1.t108 = σ.t108 ∧ σ1.t100106 = σ.t100106 ∧ σ1.t100003 = σ.t100003 ∧ σ1.t100009 = σ.t100009 ∧ σ1.t100024 = σ.t100024

section
variable {σ : St} {d n0 : Nat} {A : AD} {o : denFs fs105} {qs : List (FR × Nat)}

theorem set105_set {X Y : denFs fs105} : (σ.set105 d X).set105 d Y = σ.set105 d Y := by unfold St.set105; simp
theorem set108_set {j : Nat} {X Y : denFs fs108} : (σ.set108 j X).set108 j Y = σ.set108 j Y := by unfold St.set108; simp

theorem Fr.of {σ' : St} (h1 : σ'.t47 = σ.t47) (h2 : σ'.t105 = σ.t105) (h3 : σ'.t108 = σ.t108) (h4 : oth3 σ' = oth3 σ := by rfl) : Fr σ σ' d n0 :=
  ⟨h4, h1, fun i _ _ => by rw [h2], by rw [h2]; exact Nat.le_refl _, fun i _ => by rw [h3], by rw [h3]; exact Nat.le_refl _⟩

theorem DV.same {σ' : St} (h : DV σ d n0 A) (h1 : σ'.t105 = σ.t105) (h2 : σ'.t108 = σ.t108) : DV σ' d n0 A := by
  obtain ⟨o, qs, h⟩ := h
  exact ⟨o, qs, h.same h1 h2⟩

/-- What a call gives. -/
def Gives (r : Option (Int × St)) (σ : St) (d n0 : Nat) (p : Int × AD) : Prop := ∃ σ', r = some (p.1, σ') ∧ DV σ' d n0 p.2 ∧ Fr σ σ' d n0

theorem Gives.from {r : Option (Int × St)} {σ0 : St} {p : Int × AD} (h : Gives r σ d n0 p) (hf : Fr σ0 σ d n0) : Gives r σ0 d n0 p := by
  obtain ⟨σ', e1, e2, e3⟩ := h
  exact ⟨σ', e1, e2, hf.trans e3⟩

theorem f72_eq (h : DVq σ d n0 A o qs) (hA : OkA A) (hd : A.2.2.2.1 = false) {p1 : St → Option (Unit × St)} {k : AD → AD}
    (hp : ∀ σ1 o1, DVq σ1 d n0 (goesA A).2 o1 qs → o1.2.1 = o.2.1 → Oth σ σ1 → ∃ σ2, p1 σ1 = some ((), σ2) ∧ DV σ2 d n0 (k (goesA A).2) ∧ Fr σ1 σ2 d n0) :
    Gives (f72 (some d) p1 σ) σ d n0 (writeA A k) := by
  unfold f72 writeA
  simp only [h.ho, Option.bind_eq_bind, Option.bind_some, h.armed]
  by_cases h0 : A.2.2.1 = 0
  · have hg : goesA A = (false, A) := by unfold goesA; rw [if_pos h0]
    rw [hg] at hp ⊢
    obtain ⟨σ2, e1, e2, e3⟩ := hp σ o h rfl ⟨rfl, rfl, rfl, rfl, rfl⟩
    exact ⟨σ2, by simp [h0, e1], e2, e3⟩
  · have ha := hA.armed
    have hw : IntKind.wrap .i64 (A.2.2.1 - 1) = A.2.2.1 - 1 := wrap_id (by omega) (by omega)
    have hg : goesA A = (A.2.2.1 == 1, (A.1, A.2.1, A.2.2.1 - 1, A.2.2.1 == 1, ())) := by unfold goesA; rw [if_neg h0]
    have hpos : decide (A.2.2.1 > 0) = true := by simp; omega
    rw [hg] at hp ⊢
    simp only [hpos, if_true, hw, set105_get h.ho, Option.bind_some, set105_set]
    by_cases h1 : A.2.2.1 = 1
    · refine ⟨_, by simp [h1]; rfl, ?_, frame105⟩
      have := h.state (a := A.2.2.1 - 1) (b := true)
      rw [h1] at this ⊢
      exact ⟨_, _, this⟩
    · have e : ((A.2.2.1 - 1 == 0) : Bool) = false := by
        have : ¬ (A.2.2.1 - 1 = 0) := by omega
        simpa using this
      have e2 : ((A.2.2.1 == 1) : Bool) = false := by simpa using h1
      rw [e2] at hp
      have hq := h.state (a := A.2.2.1 - 1) (b := o.2.2.2.1)
      have hdn : o.2.2.2.1 = false := h.down.trans hd
      rw [hdn] at hq
      obtain ⟨σ2, e3, e4, e5⟩ := hp _ _ hq rfl ⟨rfl, rfl, rfl, rfl, rfl⟩
      refine ⟨σ2, ?_, ?_, frame105.trans e5⟩
      · rw [hdn]; simp [e, e2, e3]
      · simp only [e2]; exact e4

/-! ### Sync -/
theorem f33_eq (h : DV σ d n0 A) (hA : OkA A) (s : List UInt8) : Gives (f33 (some d) s σ) σ d n0 (syncA A s) := by
  obtain ⟨o, qs, h⟩ := h
  unfold f33 syncA someA
  rcases f77_cases h hA s with ⟨h1, h2⟩ | ⟨h1, ⟨h2, h3⟩ | ⟨f, j, h2, h3, h4, h5, _, h6⟩⟩
  · rw [h2, if_pos h1]
    exact ⟨(σ.add100106 (none, ())).set100106 σ.t100106.length (none, ()), by simp, ⟨o, qs, h.same rfl rfl⟩, Fr.of rfl rfl rfl⟩
  · rw [h3, if_neg (by rw [h1]; decide), h2]
    exact ⟨(σ.add100106 (none, ())).set100106 σ.t100106.length (none, ()), by simp, ⟨o, qs, h.same rfl rfl⟩, Fr.of rfl rfl rfl⟩
  · rw [h6, if_neg (by rw [h1]; decide), h2]
    simp only [Option.bind_eq_bind, Option.bind_some]
    rw [if_neg (by decide)]
    have hh : DVq ((σ.add100106 (none, ())).set100106 σ.t100106.length (some j, ())) d n0 A o qs := h.same rfl rfl
    have hc : ((σ.add100106 (none, ())).set100106 σ.t100106.length (some j, ())).t100106[σ.t100106.length]? = some (some j, ()) := set100106_get got100106
    refine Gives.from ?_ (Fr.of (σ' := (σ.add100106 (none, ())).set100106 σ.t100106.length (some j, ())) rfl rfl rfl)
    obtain ⟨σ', e1, e2, e3⟩ := f72_eq hh hA h1 (p1 := f78 σ.t100106.length) (k := fun B => putA B (setL (safeF s f) false B.2.1)) (by
      intro σ1 o1 q1 q2 q3
      have hj := (q1.lie _ h3).1
      have hc1 : σ1.t100106[σ.t100106.length]? = some (some j, ()) := by rw [q3.2.1]; exact hc
      refine ⟨σ1.set108 j (cont (safeF s f)), ?_, ⟨_, _, q1.upd hA.goes.sorted h3 h4.symm⟩, frame108 (q1.lie _ h3).2⟩
      unfold f78
      simp [hc1, hj, cont, safeF])
    exact ⟨σ', by rw [e1]; rfl, e2, e3⟩

/-! ### Truncate -/
theorem f35_eq (h : DV σ d n0 A) (hA : OkA A) (s : List UInt8) (n : Int) : Gives (f35 (some d) s n σ) σ d n0 (truncA A s n) := by
  obtain ⟨o, qs, h⟩ := h
  unfold f35 truncA someA
  have h' : DVq (σ.add100003 (n, ())) d n0 A o qs := h.same rfl rfl
  rcases f77_cases h' hA s with ⟨h1, h2⟩ | ⟨h1, ⟨h2, h3⟩ | ⟨f, j, h2, h3, h4, h5, _, h6⟩⟩
  · rw [h2, if_pos h1]
    exact ⟨((σ.add100003 (n, ())).add100106 (none, ())).set100106 (σ.add100003 (n, ())).t100106.length (none, ()), by simp, ⟨o, qs, h.same rfl rfl⟩, Fr.of rfl rfl rfl⟩
  · rw [h3, if_neg (by rw [h1]; decide), h2]
    exact ⟨((σ.add100003 (n, ())).add100106 (none, ())).set100106 (σ.add100003 (n, ())).t100106.length (none, ()), by simp, ⟨o, qs, h.same rfl rfl⟩, Fr.of rfl rfl rfl⟩
  · rw [h6, if_neg (by rw [h1]; decide), h2]
    simp only [Option.bind_eq_bind, Option.bind_some]
    rw [if_neg (by decide)]
    have hfs := hA.each f (findL_some h2).1
    by_cases c1 : n < 0
    · rw [if_pos (by simpa using c1), if_pos (.inl c1)]
      exact ⟨_, rfl, ⟨o, qs, h.same rfl rfl⟩, Fr.of rfl rfl rfl⟩
    rw [if_neg (by simpa using c1)]
    have hl : (((σ.add100003 (n, ())).add100106 (none, ())).set100106 ((σ.add100003 (n, ())).t100106.length) (some j, ())).t108[j]? = some (cont f) := h5
    rw [hl]
    simp only [Option.bind_some]
    have hcl : (cont f).1.length = fsize f := by simp [cont, fsize]
    by_cases c2 : (fsize f : Int) < n
    · rw [if_pos (by rw [hcl]; simpa using c2), if_pos (.inr c2)]
      exact ⟨_, rfl, ⟨o, qs, h.same rfl rfl⟩, Fr.of rfl rfl rfl⟩
    rw [if_neg (by rw [hcl]; simpa using c2), if_neg (by simp only [not_or]; exact ⟨c1, c2⟩)]
    have hh : DVq (((σ.add100003 (n, ())).add100106 (none, ())).set100106 ((σ.add100003 (n, ())).t100106.length) (some j, ())) d n0 A o qs := h.same rfl rfl
    have hc : (((σ.add100003 (n, ())).add100106 (none, ())).set100106 ((σ.add100003 (n, ())).t100106.length) (some j, ())).t100106[(σ.add100003 (n, ())).t100106.length]? = some (some j, ()) := set100106_get got100106
    have hc3 : (((σ.add100003 (n, ())).add100106 (none, ())).set100106 ((σ.add100003 (n, ())).t100106.length) (some j, ())).t100003[σ.t100003.length]? = some (n, ()) := by
      show (σ.add100003 (n, ())).t100003[σ.t100003.length]? = _
      exact got100003
    refine Gives.from ?_ (Fr.of (σ' := ((σ.add100003 (n, ())).add100106 (none, ())).set100106 ((σ.add100003 (n, ())).t100106.length) (some j, ())) rfl rfl rfl)
    obtain ⟨σ', e1, e2, e3⟩ := f72_eq hh hA h1 (p1 := f79 ((σ.add100003 (n, ())).t100106.length) σ.t100003.length) (k := fun B => putA B (setL (cutF s f n.toNat) false B.2.1)) (by
      intro σ1 o1 q1 q2 q3
      have hj := (q1.lie _ h3).1
      have hc1 : σ1.t100106[(σ.add100003 (n, ())).t100106.length]? = some (some j, ()) := by rw [q3.2.1]; exact hc
      have hc2 : σ1.t100003[σ.t100003.length]? = some (n, ()) := by rw [q3.2.2.1]; exact hc3
      have hn1 : (cutF s f n.toNat).1 = f.1 := by rw [h4]; unfold cutF; split <;> rfl
      refine ⟨σ1.set108 j (cont (cutF s f n.toNat)), ?_, ⟨_, _, q1.upd hA.goes.sorted h3 hn1⟩, frame108 (q1.lie _ h3).2⟩
      unfold f79
      have hg : (0 : Int) ≤ n ∧ n ≤ ((cont f).1.length : Int) := by rw [hcl]; omega
      simp only [hc1, hc2, hj, Option.bind_eq_bind, Option.bind_some, hg, and_self, if_true, set108_get hj, set108_set]
      have : ((f.2.1 ++ f.2.2.1).take n.toNat, (if n < (f.2.1.length : Int) then n else (f.2.1.length : Int)), ()) = cont (cutF s f n.toNat) := by
        unfold cutF cont
        by_cases c3 : n.toNat ≤ f.2.1.length
        · rw [if_pos c3]
          simp only [List.append_nil, List.length_take]
          rw [List.take_append_of_le_length c3]
          congr 2
          split <;> omega
        · rw [if_neg c3]
          simp only []
          rw [List.take_append, List.take_of_length_le (l := f.2.1) (by omega)]
          congr 2
          rw [if_neg (by omega)]
      exact congrArg (fun X => some ((), σ1.set108 j X)) this)
    exact ⟨σ', by rw [e1]; rfl, e2, e3⟩

/-! ### Remove -/
theorem f37_eq (h : DV σ d n0 A) (hA : OkA A) (s : List UInt8) : Gives (f37 (some d) s σ) σ d n0 (removeA A s) := by
  obtain ⟨o, qs, h⟩ := h
  unfold f37 removeA someA
  have hh : DVq ((σ.add100024 (some d, ())).add100009 (s, ())) d n0 A o qs := h.same rfl rfl
  refine Gives.from ?_ (Fr.of (σ' := (σ.add100024 (some d, ())).add100009 (s, ())) rfl rfl rfl)
  rcases f77_cases hh hA s with ⟨h1, h2⟩ | ⟨h1, ⟨h2, h3⟩ | ⟨f, j, h2, h3, h4, h5, _, h6⟩⟩
  · rw [h2, if_pos h1]
    exact ⟨_, by simp, ⟨o, qs, hh⟩, Fr.refl _ _ _⟩
  · rw [h3, if_neg (by rw [h1]; decide), h2]
    exact ⟨_, by simp, ⟨o, qs, hh⟩, Fr.refl _ _ _⟩
  · rw [h6, if_neg (by rw [h1]; decide), h2]
    simp only [Option.bind_eq_bind, Option.bind_some]
    rw [if_neg (by decide)]
    have hc1 : ((σ.add100024 (some d, ())).add100009 (s, ())).t100024[σ.t100024.length]? = some (some d, ()) := by
      show (σ.add100024 (some d, ())).t100024[σ.t100024.length]? = _
      exact got100024
    have hc2 : ((σ.add100024 (some d, ())).add100009 (s, ())).t100009[(σ.add100024 (some d, ())).t100009.length]? = some (s, ()) := got100009
    obtain ⟨σ', e1, e2, e3⟩ := f72_eq hh hA h1 (p1 := f81 σ.t100024.length ((σ.add100024 (some d, ())).t100009.length)) (k := fun B => putA B (dropL s B.2.1)) (by
      intro σ1 o1 q1 q2 q3
      refine ⟨_, ?_, ⟨_, _, q1.unlink hA.goes.sorted s⟩, frame105⟩
      unfold f81
      rw [q3.2.2.2.1, q3.2.2.2.2, hc1, hc2]
      simp [q1.ho])
    exact ⟨σ', by rw [e1]; rfl, e2, e3⟩

/-! ### Rename -/
theorem f36_eq (h : DV σ d n0 A) (hA : OkA A) (s t : List UInt8) (hs : s.length < 9223372036854775808) (ht : t.length < 9223372036854775808) : Gives (f36 (some d) s t σ) σ d n0 (renameA A s t) := by
  obtain ⟨o, qs, h⟩ := h
  unfold f36 renameA someA
  have hh : DVq (((σ.add100024 (some d, ())).add100009 (s, ())).add100009 (t, ())) d n0 A o qs := h.same rfl rfl
  refine Gives.from ?_ (Fr.of (σ' := ((σ.add100024 (some d, ())).add100009 (s, ())).add100009 (t, ())) rfl rfl rfl)
  have hc1 : (((σ.add100024 (some d, ())).add100009 (s, ())).add100009 (t, ())).t100024[σ.t100024.length]? = some (some d, ()) := by
    show (σ.add100024 (some d, ())).t100024[σ.t100024.length]? = _
    exact got100024
  have hc2 : (((σ.add100024 (some d, ())).add100009 (s, ())).add100009 (t, ())).t100009[(σ.add100024 (some d, ())).t100009.length]? = some (s, ()) := by
    simp [St.add100009, St.add100024]
  have hc3 : (((σ.add100024 (some d, ())).add100009 (s, ())).add100009 (t, ())).t100009[((σ.add100024 (some d, ())).add100009 (s, ())).t100009.length]? = some (t, ()) := got100009
  simp only [f70_eq hh, hc2, Option.bind_eq_bind, Option.bind_some, f71_eq s hs, f71_eq t ht]
  cases hd : A.2.2.2.1 with
  | true => exact ⟨_, by simp, ⟨o, qs, hh⟩, Fr.refl _ _ _⟩
  | false =>
    simp only [Bool.false_eq_true, if_false]
    rw [if_neg (by decide)]
    cases hn : okName s with
    | false => exact ⟨_, by simp, ⟨o, qs, hh⟩, Fr.refl _ _ _⟩
    | true =>
      cases hn2 : okName t with
      | false => exact ⟨_, by simp, ⟨o, qs, hh⟩, Fr.refl _ _ _⟩
      | true =>
        simp only [Bool.not_true, Bool.false_eq_true, if_false, Bool.true_eq_false]
        rcases f77_cases hh hA s with ⟨h1, h2⟩ | ⟨h1, ⟨h2, h3⟩ | ⟨f, j, h2, h3, h4, h5, _, h6⟩⟩
        · rw [h1] at hd; cases hd
        · rw [h3, h2]
          exact ⟨((((σ.add100024 (some d, ())).add100009 (s, ())).add100009 (t, ())).add100106 (none, ())).set100106 ((((σ.add100024 (some d, ())).add100009 (s, ())).add100009 (t, ())).t100106.length) (none, ()), by simp, ⟨o, qs, hh.same rfl rfl⟩, Fr.of rfl rfl rfl⟩
        · rw [h6, h2]
          simp only [Option.bind_some]
          rw [if_neg (by decide)]
          have hl : ((((((σ.add100024 (some d, ())).add100009 (s, ())).add100009 (t, ())).add100106 (none, ())).set100106 ((((σ.add100024 (some d, ())).add100009 (s, ())).add100009 (t, ())).t100106.length) (some j, ())).t108[j]?) = some (cont f) := h5
          rw [hl]
          simp only [Option.bind_some]
          by_cases hm : f.2.2.1 = []
          · rw [if_neg (by simp [cont, hm]), if_neg (by simp [hm])]
            have hh2 : DVq (((((σ.add100024 (some d, ())).add100009 (s, ())).add100009 (t, ())).add100106 (none, ())).set100106 ((((σ.add100024 (some d, ())).add100009 (s, ())).add100009 (t, ())).t100106.length) (some j, ())) d n0 A o qs := h.same rfl rfl
            have hc4 : (((((σ.add100024 (some d, ())).add100009 (s, ())).add100009 (t, ())).add100106 (none, ())).set100106 ((((σ.add100024 (some d, ())).add100009 (s, ())).add100009 (t, ())).t100106.length) (some j, ())).t100106[(((σ.add100024 (some d, ())).add100009 (s, ())).add100009 (t, ())).t100106.length]? = some (some j, ()) := set100106_get got100106
            refine Gives.from ?_ (Fr.of (σ' := ((((σ.add100024 (some d, ())).add100009 (s, ())).add100009 (t, ())).add100106 (none, ())).set100106 ((((σ.add100024 (some d, ())).add100009 (s, ())).add100009 (t, ())).t100106.length) (some j, ())) rfl rfl rfl)
            obtain ⟨σ', e1, e2, e3⟩ := f72_eq hh2 hA h1 (p1 := f80 σ.t100024.length ((σ.add100024 (some d, ())).t100009.length) ((((σ.add100024 (some d, ())).add100009 (s, ())).add100009 (t, ())).t100106.length) (((σ.add100024 (some d, ())).add100009 (s, ())).t100009.length)) (k := fun B => putA B (setL (nameF t f) false (dropL s B.2.1))) (by
              intro σ1 o1 q1 q2 q3
              have g1 : σ1.t100024[σ.t100024.length]? = some (some d, ()) := by rw [q3.2.2.2.2]; exact hc1
              have g2 : σ1.t100009[(σ.add100024 (some d, ())).t100009.length]? = some (s, ()) := by rw [q3.2.2.2.1]; exact hc2
              have g3 : σ1.t100009[((σ.add100024 (some d, ())).add100009 (s, ())).t100009.length]? = some (t, ()) := by rw [q3.2.2.2.1]; exact hc3
              have g4 : σ1.t100106[(((σ.add100024 (some d, ())).add100009 (s, ())).add100009 (t, ())).t100106.length]? = some (some j, ()) := by rw [q3.2.1]; exact hc4
              have q4 := q1.unlink hA.goes.sorted s
              have hp := rest_perm (q1.names hA.goes.sorted) h3
              rw [h4] at hp
              have hnd := List.nodup_cons.1 ((hp.map (fun q : FR × Nat => q.2)).nodup_iff.1 q1.nodup)
              have q5 := q4.link (g := nameF t f) (j := j) (hA.goes.sorted.drop s) hnd.1 (by
                have := (q1.lie _ h3).1
                simp only [cont, hm] at this
                simpa [cont, nameF, St.set105] using this) (q1.lie _ h3).2
              refine ⟨_, ?_, ⟨_, _, q5⟩, frame105.trans frame105⟩
              unfold f80
              have r3 : ∀ X, (σ1.set105 d X).t100009[((σ.add100024 (some d, ())).add100009 (s, ())).t100009.length]? = some (t, ()) := fun X => g3
              have r4 : ∀ X, (σ1.set105 d X).t100106[(((σ.add100024 (some d, ())).add100009 (s, ())).add100009 (t, ())).t100106.length]? = some (some j, ()) := fun X => g4
              simp only [g1, g2, q1.ho, Option.bind_eq_bind, Option.bind_some, set105_get q1.ho, r3, r4]
              rfl)
            exact ⟨σ', by rw [e1]; rfl, e2, e3⟩
          · have hpos : 0 < f.2.2.1.length := List.length_pos_iff.2 hm
            have hlt : (cont f).2.1 < ((cont f).1.length : Int) := by
              show (f.2.1.length : Int) < ((f.2.1 ++ f.2.2.1).length : Int)
              rw [List.length_append]; omega
            rw [if_pos (decide_eq_true hlt), if_pos hm]
            exact ⟨_, rfl, ⟨o, qs, hh.same rfl rfl⟩, Fr.of rfl rfl rfl⟩

/-! ### Arm -/
theorem f32_eq (h : DV σ d n0 A) (n : Int) : Gives (f32 (some d) n σ) σ d n0 (armA A n) := by
  obtain ⟨o, qs, h⟩ := h
  unfold f32 armA
  rw [f70_eq h]
  cases hd : A.2.2.2.1 with
  | true => exact ⟨_, by simp, ⟨o, qs, h⟩, Fr.refl _ _ _⟩
  | false =>
    by_cases c : n < 1
    · rw [if_neg (by decide), if_pos c]
      exact ⟨_, by simp [c], ⟨o, qs, h⟩, Fr.refl _ _ _⟩
    · rw [if_neg (by decide), if_neg c]
      have hq := h.state (a := n) (b := o.2.2.2.1)
      have hdn : o.2.2.2.1 = false := h.down.trans hd
      rw [hdn] at hq
      exact ⟨σ.set105 d (o.1, o.2.1, n, false, ()), by simp [c, h.ho, hdn], ⟨_, _, hq⟩, frame105⟩

/-! ### Append -/
theorem f73_id {B : AD} : ∀ σ1 o1, DVq σ1 d n0 B o1 qs → o1.2.1 = o.2.1 → Oth σ σ1 → ∃ σ2, f73 σ1 = some ((), σ2) ∧ DV σ2 d n0 (id B) ∧ Fr σ1 σ2 d n0 :=
  fun σ1 o1 q1 _ _ => ⟨σ1, rfl, ⟨_, _, q1⟩, Fr.refl _ _ _⟩

theorem f24_eq (h : DV σ d n0 A) (hA : OkA A) (s b : List UInt8) (hs : s.length < 9223372036854775808) : Gives (f24 (some d) s b σ) σ d n0 (appendA A s b) := by
  obtain ⟨o, qs, h⟩ := h
  unfold f24 appendA
  rw [f70_eq h]
  simp only [Option.bind_eq_bind, Option.bind_some, f71_eq s hs, h.ho]
  cases hd : A.2.2.2.1 with
  | true => exact ⟨_, by simp, ⟨o, qs, h⟩, Fr.refl _ _ _⟩
  | false =>
    simp only [Bool.false_eq_true, if_false]
    rw [if_neg (by decide)]
    cases hn : okName s with
    | false => exact ⟨_, by simp, ⟨o, qs, h⟩, Fr.refl _ _ _⟩
    | true =>
      simp only [Bool.not_true, Bool.false_eq_true, if_false, Bool.true_eq_false]
      have hdB : ∀ L, (putA A L).2.2.2.1 = false := fun L => hd
      have hlen := h.len
      rcases h.look hA.sorted s with ⟨h1, h2, h3⟩ | ⟨f, j, h1, h2, h3, h4, h5⟩
      · simp only [h2, Option.getD_none, zeroK, Option.isNone_none, Bool.not_true, Bool.false_eq_true, if_false, if_true, Option.bind_some, f20_eq h hA, h.room, used_id hA, decide_eq_true_eq]
        have hw : IntKind.wrap .i64 (65536 - 0) = 65536 := by decide
        rw [hw, hlen]
        have hsz : fsize (emptyF s) = 0 := rfl
        by_cases c1 : (A.2.1.length : Int) ≥ 128
        · rw [if_pos c1, if_pos (.inl ⟨by rw [h1]; rfl, by omega⟩)]
          exact ⟨_, rfl, ⟨o, qs, h⟩, Fr.refl _ _ _⟩
        rw [if_neg c1]
        by_cases c2 : (b.length : Int) > 65536
        · rw [if_pos c2, if_pos (.inr (.inl (by rw [h1]; simp only [Option.getD_none, hsz]; omega)))]
          exact ⟨_, rfl, ⟨o, qs, h⟩, Fr.refl _ _ _⟩
        rw [if_neg c2]
        by_cases c3 : (b.length : Int) > A.1 - ((usedL A.2.1 : Nat) : Int)
        · rw [if_pos c3, if_pos (.inr (.inr (by omega)))]
          exact ⟨_, rfl, ⟨o, qs, h⟩, Fr.refl _ _ _⟩
        rw [if_neg c3]
        have hc : ¬ full A s b := by
          simp only [full, h1, Option.getD_none, hsz, not_or, not_and]
          exact ⟨fun _ => by omega, by omega, by omega⟩
        rw [if_neg hc]
        have hB := hA.appended hc
        rw [h1] at hB ⊢
        have e0 : (σ.add108 ([], 0, ())).t105[d]? = some o := h.ho
        rw [e0]
        simp only [Option.bind_some]
        have q0 : DVq (σ.add108 ([], 0, ())) d n0 A o qs := by
          refine ⟨h.ho, h.room, h.armed, h.down, h.map, h.files, h.nodup, fun q hq => ?_, by have := h.base; simp [St.add108]; omega⟩
          obtain ⟨a1, a2⟩ := h.lie q hq
          refine ⟨?_, a2⟩
          simp only [St.add108]
          rw [List.getElem?_append_left (List.getElem?_eq_some_iff.1 a1).1]; exact a1
        have hnew : σ.t108.length ∉ qs.map (·.2) := fun hm => by
          obtain ⟨q, hq, e⟩ := List.mem_map.1 hm
          have := (List.getElem?_eq_some_iff.1 (h.lie q hq).1).1
          omega
        have q1 := q0.link (g := emptyF s) (j := σ.t108.length) hA.sorted hnew got108 h.base
        have q2 := q1.upd (g := moreF (emptyF s) b) hA.sorted.set List.mem_cons_self rfl
        have q3 := q2.perm (L := setL (moreF (emptyF s) b) false A.2.1) (by
          refine (setL_perm _ _).trans (List.Perm.trans ?_ (setL_perm _ _).symm)
          refine List.Perm.cons _ ?_
          refine (dropL_congr (setL_perm _ _)).trans ?_
          have e1 : (moreF (emptyF s) b).1 = s := rfl
          have e2 : (emptyF s).1 = s := rfl
          rw [e1, e2]
          simp only [dropL, e2, beq_self_eq_true, cond_true, List.nil_append]
          rw [dropL_none (L := dropL s A.2.1)]
          rw [dropL_none h1]; exact h1)
        have g1 : ((σ.add108 ([], 0, ())).set105 d (o.1, mapSet .str (.ptr 108) s (some σ.t108.length) o.2.1, o.2.2.1, o.2.2.2.1, ())).t108[σ.t108.length]? = some ([], 0, ()) := got108
        rw [g1]
        simp only [Option.bind_some]
        have hl : ([] : List UInt8).length + b.length ≤ 9223372036854775807 := by simp; omega
        rw [if_pos hl]
        have hB' : OkA (putA (putA A (setL (emptyF s) false A.2.1)) (setL (moreF (emptyF s) b) false A.2.1)) := hB
        obtain ⟨σ', e1, e2, e3⟩ := f72_eq (k := id) q3 hB' (hdB _) f73_id
        refine ⟨σ', ?_, e2, ((frame_add108 h.base).trans (frame105.trans (frame108 h.base))).trans e3⟩
        have e4 : (([] : List UInt8) ++ b, (0 : Int), ()) = cont (moreF (emptyF s) b) := rfl
        rw [e4]
        have e5 : (emptyF s).1 = s := rfl
        rw [e5] at e1
        rw [e1]; rfl
      · have hfs := hA.each f (findL_some h1).1
        have hcl : (cont f).1.length = fsize f := by simp [cont, fsize]
        simp only [h2, Option.getD_some, Option.isNone_some, Bool.not_false, Bool.false_eq_true, if_false, if_true, Option.bind_some, f20_eq h hA, h.room, used_id hA, decide_eq_true_eq, h5, hcl]
        have hw : IntKind.wrap .i64 (65536 - (fsize f : Int)) = 65536 - (fsize f : Int) := wrap_id (by omega) (by omega)
        rw [hw]
        by_cases c2 : (b.length : Int) > 65536 - (fsize f : Int)
        · rw [if_pos c2, if_pos (.inr (.inl (by rw [h1]; simp only [Option.getD_some]; omega)))]
          exact ⟨_, rfl, ⟨o, qs, h⟩, Fr.refl _ _ _⟩
        rw [if_neg c2]
        by_cases c3 : (b.length : Int) > A.1 - ((usedL A.2.1 : Nat) : Int)
        · rw [if_pos c3, if_pos (.inr (.inr (by omega)))]
          exact ⟨_, rfl, ⟨o, qs, h⟩, Fr.refl _ _ _⟩
        rw [if_neg c3]
        have hc : ¬ full A s b := by
          simp only [full, h1, Option.getD_some, not_or, not_and]
          exact ⟨fun h => by simp at h, by omega, by omega⟩
        rw [if_neg hc]
        have hB := hA.appended hc
        rw [h1] at hB ⊢
        have q2 := h.upd (g := moreF f b) hA.sorted h3 rfl
        have hl : fsize f + b.length ≤ 9223372036854775807 := by omega
        rw [if_pos hl]
        obtain ⟨σ', e1, e2, e3⟩ := f72_eq (k := id) q2 hB (hdB _) f73_id
        refine ⟨σ', ?_, e2, (frame108 (h.lie _ h3).2).trans e3⟩
        have e4 : ((cont f).1 ++ b, (cont f).2.1, ()) = cont (moreF f b) := by simp [cont, moreF]
        rw [e4]
        rw [e1]; rfl

/-! ### Crash -/
theorem f27_loop (d n0 : Nat) (A0 : AD) : ∀ (suf pre : List FR) (keep : List Int) (σ : St) (A : AD), DV σ d n0 A → A.2.1 = pre ++ suf → SortL (pre ++ suf) → pre.length + suf.length ≤ 128 → (∀ f ∈ suf, fsize f ≤ 65536) →
    ∃ keep' σ', f27_l0 (some d) ((pre ++ suf).map (·.1)) keep ((pre.length : Nat) : Int) σ = some (keep', ((pre.length + suf.length : Nat) : Int), σ') ∧ DV σ' d n0 (putA A (pre ++ crashL suf keep)) ∧ Fr σ σ' d n0
  | [], pre, keep, σ, A, h, hL, hs, hl, hf => by
    rw [f27_l0]
    refine ⟨keep, σ, ?_, ?_, Fr.refl _ _ _⟩
    · simp
    · simp only [crashL]; rw [← hL]; exact h
  | f :: r, pre, keep, σ, A, h, hL, hs, hl, hf => by
    rw [f27_l0]
    obtain ⟨o, qs, h⟩ := h
    have hsA : SortL A.2.1 := by rw [hL]; exact hs
    have hfs := hf f List.mem_cons_self
    have hfd : findL f.1 A.2.1 = some f := findL_of hsA (by rw [hL]; simp) rfl
    have hlook := h.look hsA f.1
    rw [hfd] at hlook
    rcases hlook with ⟨h1, _⟩ | ⟨f', j, h1, h2, h3, h4, h5⟩
    · cases h1
    simp only [Option.some.injEq] at h1; subst h1
    have hn : pre.length < ((pre ++ f :: r).map (·.1)).length := by simp
    have hix : ix ((pre ++ f :: r).map (·.1)) ((pre.length : Nat) : Int) = some f.1 := by rw [ix_at hn]; simp
    have hlt : ((pre.length : Nat) : Int) < (((pre ++ f :: r).map (·.1)).length : Int) := by omega
    simp only [List.length_cons] at hl
    have hw : IntKind.wrap .i64 ((pre.length : Int) + 1) = (((pre ++ [f]).length : Nat) : Int) := by rw [wrap_id (by omega) (by omega)]; simp
    have hmore : IntKind.wrap .i64 (((cont f).1.length : Int) - (cont f).2.1) = (f.2.2.1.length : Int) := by
      unfold fsize at hfs
      have : ((cont f).1.length : Int) - (cont f).2.1 = (f.2.2.1.length : Int) := by simp [cont]; omega
      rw [this, wrap_id (by omega) (by omega)]
    have happ : (pre ++ [f]) ++ r = pre ++ f :: r := by simp
    simp only [hlt, decide_true, if_true, hix, Option.bind_eq_bind, Option.bind_some, h.ho, h2, Option.getD_some, h5, hmore, hw]
    have next : ∀ (g : FR) (keep2 : List Int) (σ2 : St), g.1 = f.1 → DV σ2 d n0 (putA A (pre ++ g :: r)) → Fr σ σ2 d n0 →
        ∃ keep' σ', f27_l0 (some d) ((pre ++ f :: r).map (·.1)) keep2 (((pre ++ [f]).length : Nat) : Int) σ2 = some (keep', ((pre.length + (f :: r).length : Nat) : Int), σ') ∧ DV σ' d n0 (putA A (pre ++ g :: crashL r keep2)) ∧ Fr σ σ' d n0 := by
      intro g keep2 σ2 hg hv hfr
      have hnm : (pre ++ f :: r).map (·.1) = ((pre ++ [g]) ++ r).map (·.1) := by simp [hg]
      obtain ⟨k', σ', e1, e2, e3⟩ := f27_loop d n0 A0 r (pre ++ [g]) keep2 σ2 (putA A (pre ++ g :: r)) hv (by simp [putA]) (SortL_names hnm hs) (by simp; omega) (fun x hx => hf x (List.mem_cons_of_mem _ hx))
      refine ⟨k', σ', ?_, ?_, hfr.trans e3⟩
      · rw [hnm]
        have hpl : (pre ++ [f]).length = (pre ++ [g]).length := by simp
        rw [hpl, e1]
        simp only [List.length_append, List.length_cons, List.length_nil]
        congr 3
        omega
      · have : (pre ++ [g]) ++ crashL r keep2 = pre ++ g :: crashL r keep2 := by simp
        rw [this] at e2; exact e2
    simp only [crashL]
    cases hm : f.2.2.1 with
    | nil =>
      have e : ((f.1, f.2.1, [], ()) : FR) = f := by rw [← hm]
      have h0 : (((([] : List UInt8).length : Int) == 0) : Bool) = true := rfl
      rw [if_pos h0]
      simp only [List.isEmpty_nil, cond_true, e]
      refine next f keep σ rfl ?_ (Fr.refl _ _ _)
      rw [← hL]; exact ⟨o, qs, h⟩
    | cons c t =>
      have h0 : ((((c :: t : List UInt8).length : Int) == 0) : Bool) = false := by
        have : ¬ (((c :: t : List UInt8).length : Int) = 0) := by simp only [List.length_cons]; omega
        simpa using this
      have hkl := keepN_le keep (c :: t).length
      have hfs' := hfs
      unfold fsize at hfs'
      rw [hm] at hfs'
      have hw1 : IntKind.wrap .i64 (((c :: t : List UInt8).length : Int) + 1) = ((c :: t : List UInt8).length : Int) + 1 := wrap_id (by omega) (by omega)
      rw [h0]
      simp only [Bool.false_eq_true, if_false, List.isEmpty_cons, cond_false, hw1]
      have hz : ((if decide ((keep.length : Int) > 0) = true then
          (ix keep 0).bind fun x49 => if ((c :: t : List UInt8).length : Int) + 1 ≠ 0 then if (0 : Int) ≤ 1 ∧ 1 ≤ (keep.length : Int) then some (keep.drop (Int.toNat 1), Int.tmod (if 0 > x49 then 0 else x49) (((c :: t : List UInt8).length : Int) + 1)) else none else none
          else some (keep, 0)) : Option (List Int × Int)) = some (keep.tail, ((keepN keep (c :: t).length : Nat) : Int)) := by
        cases keep with
        | nil => simp [keepN]
        | cons y r' =>
          have hne : ((c :: t : List UInt8).length : Int) + 1 ≠ 0 := by omega
          have hgt : ((y :: r').length : Int) > 0 := by simp only [List.length_cons]; omega
          have hle : (0 : Int) ≤ 1 ∧ 1 ≤ ((y :: r').length : Int) := ⟨by decide, by simp only [List.length_cons]; omega⟩
          have hix0 : ix (y :: r') 0 = some y := rfl
          rw [if_pos (decide_eq_true hgt), hix0, Option.bind_some, if_pos hne, if_pos hle]
          congr 1
          have : (if 0 > y then (0 : Int) else y).tmod (((c :: t : List UInt8).length : Int) + 1) = ((keepN (y :: r') (c :: t).length : Nat) : Int) := by
            simp only [keepN]
            by_cases hy : 0 < y
            · rw [if_neg (by omega), if_pos hy]
              have := Int.tmod_nonneg (((c :: t : List UInt8).length : Int) + 1) (Int.le_of_lt hy)
              omega
            · rw [if_neg hy]
              have : (if 0 > y then (0 : Int) else y) = 0 := by split <;> omega
              rw [this]; simp
          rw [this]; rfl
      rw [hz]
      simp only [Option.bind_some]
      have hsafe : (cont f).2.1 = (f.2.1.length : Int) := rfl
      have hb : (cont f).1 = f.2.1 ++ c :: t := by rw [← hm]; rfl
      have hw2 : IntKind.wrap .i64 ((f.2.1.length : Int) + ((keepN keep (c :: t).length : Nat) : Int)) = ((f.2.1.length + keepN keep (c :: t).length : Nat) : Int) := by rw [wrap_id (by omega) (by omega)]; omega
      rw [hsafe, hw2, hb]
      rw [if_pos ⟨by omega, by simp only [List.length_append]; omega⟩]
      simp only [set108_get h5, Option.bind_some, set108_set, Int.toNat_natCast]
      have hcont : ((f.2.1 ++ c :: t).take (f.2.1.length + keepN keep (c :: t).length), ((((f.2.1 ++ c :: t).take (f.2.1.length + keepN keep (c :: t).length)).length : Nat) : Int), ()) = cont (f.1, f.2.1 ++ (c :: t).take (keepN keep (c :: t).length), [], ()) := by
        have : (f.2.1 ++ c :: t).take (f.2.1.length + keepN keep (c :: t).length) = f.2.1 ++ (c :: t).take (keepN keep (c :: t).length) := by
          rw [List.take_append, List.take_of_length_le (l := f.2.1) (by omega)]; simp
        simp only [cont, this, List.append_nil]
      rw [hcont]
      refine next (f.1, f.2.1 ++ (c :: t).take (keepN keep (c :: t).length), [], ()) keep.tail _ rfl ?_ (frame108 (h.lie _ h3).2)
      have q1 := h.upd (g := (f.1, f.2.1 ++ (c :: t).take (keepN keep (c :: t).length), [], ())) hsA h3 rfl
      refine ⟨_, _, q1.perm (L := pre ++ (f.1, f.2.1 ++ (c :: t).take (keepN keep (c :: t).length), [], ()) :: r) ?_⟩
      refine (setL_perm _ _).trans (List.Perm.trans ?_ List.perm_middle.symm)
      refine List.Perm.cons _ ?_
      have p1 := dropL_perm hsA hfd
      rw [hL] at p1
      have p2 : (f :: (pre ++ r)).Perm (f :: dropL f.1 A.2.1) := by
        rw [hL]; exact List.perm_middle.symm.trans p1
      exact (List.Perm.cons_inv p2).symm

theorem f27_eq (h : DV σ d n0 A) (hA : OkA A) (keep : List Int) : Gives (f27 (some d) keep σ) σ d n0 (0, crashA A keep) := by
  have hf := hA.files
  obtain ⟨k', σ', e1, e2, e3⟩ := f27_loop d n0 A A.2.1 [] keep σ A h rfl hA.sorted (by simp; exact hf) hA.each
  obtain ⟨o, qs, h⟩ := h
  obtain ⟨o2, qs2, h2⟩ := e2
  unfold f27
  rw [f21_eq h hA]
  have e1' : f27_l0 (some d) (A.2.1.map (·.1)) keep 0 σ = some (k', ((0 + A.2.1.length : Nat) : Int), σ') := e1
  simp only [Option.isNone_some, Option.bind_eq_bind, Option.bind_some, e1', h2.ho, set105_get h2.ho, set105_set]
  rw [if_neg (by decide)]
  exact ⟨_, rfl, ⟨_, _, h2.state⟩, e3.trans frame105⟩

/-! ### A new one -/
theorem f18_eq {room : Int} (h1 : 0 ≤ room) (h2 : room ≤ 1048576) : f18 room σ = some ((some σ.t105.length, 0), σ.add105 (room, [], 0, false, ())) ∧ DV (σ.add105 (room, [], 0, false, ())) σ.t105.length σ.t108.length (room, [], 0, false, ()) ∧ OkA (room, [], 0, false, ()) := by
  refine ⟨?_, ⟨(room, [], 0, false, ()), [], ?_⟩, ?_⟩
  · unfold f18
    have c1 : ¬ room < 0 := by omega
    have c2 : ¬ room > 1048576 := by omega
    simp [c1, c2]
  · exact ⟨got105, rfl, rfl, rfl, List.Perm.refl _, List.Perm.refl _, List.nodup_nil, by simp, Nat.le_refl _⟩
  · exact ⟨List.Pairwise.nil, Nat.zero_le _, fun f hf => by simp at hf, h1, h2, Int.le_refl 0, (by decide : (0 : Int) < 9223372036854775808)⟩
end
section
variable {σ : St} {d n0 : Nat} {A : AD}
/-- What other disks keep. -/
structure Keeps (σ σ' : St) : Prop where
  t47 : σ'.t47 = σ.t47
  t105 : ∀ i, i < σ.t105.length → σ'.t105[i]? = σ.t105[i]?
  t108 : ∀ j, j < σ.t108.length → σ'.t108[j]? = σ.t108[j]?
  l108 : σ.t108.length ≤ σ'.t108.length

theorem Keeps.of {σ1 σ' : St} {y : denFs fs105} (h1 : σ1 = σ.add105 y) (hf : Fr σ1 σ' σ.t105.length σ.t108.length) : Keeps σ σ' := by
  subst h1
  refine ⟨hf.t47, fun i hi => ?_, fun j hj => hf.t108 j hj, hf.l108⟩
  rw [hf.t105 i (by omega) (by simp [St.add105]; omega)]
  simp only [St.add105]
  rw [List.getElem?_append_left hi]

theorem DV.keep {σ' : St} (h : DV σ d n0 A) (hk : Keeps σ σ') : DV σ' d n0 A := by
  obtain ⟨o, qs, a1, a2, a3, a4, a5, a6, a7, a8, a9⟩ := h
  refine ⟨o, qs, ?_, a2, a3, a4, a5, a6, a7, fun q hq => ?_, Nat.le_trans a9 hk.l108⟩
  · rw [hk.t105 d (List.getElem?_eq_some_iff.1 a1).1]; exact a1
  · obtain ⟨b1, b2⟩ := a8 q hq
    exact ⟨by rw [hk.t108 _ (List.getElem?_eq_some_iff.1 b1).1]; exact b1, b2⟩

end
/-! ### Do both say the same? -/
theorem f51_loop (l : List (List UInt8)) (hl : l.length < 9223372036854775808) : ∀ (k n : Nat), n + k = l.length → ∃ z, f51_l0 l l (n : Int) = some (.inl z)
  | 0, n, h => by
    rw [f51_l0]
    have : n = l.length := by omega
    subst this
    exact ⟨_, by simp; rfl⟩
  | k + 1, n, h => by
    rw [f51_l0]
    have hn : n < l.length := by omega
    have hw : IntKind.wrap .i64 ((n : Int) + 1) = ((n + 1 : Nat) : Int) := by rw [wrap_id (by omega) (by omega)]; omega
    have h1 : ((n : Int) < (l.length : Int)) := by omega
    obtain ⟨z, ih⟩ := f51_loop l hl k (n + 1) (by omega)
    refine ⟨z, ?_⟩
    simp only [h1, decide_true, if_true, ix_at hn, Option.bind_eq_bind, Option.bind_some, hw, ih, beq_self_eq_true, Bool.not_true]
    rw [if_neg Bool.false_ne_true]

theorem f51_eq (l : List (List UInt8)) (hl : l.length < 9223372036854775808) : f51 l l = some true := by
  obtain ⟨z, h0⟩ := f51_loop l hl l.length 0 (by omega)
  rw [show (((0 : Nat) : Int)) = (0 : Int) from rfl] at h0
  unfold f51
  rw [if_neg (by simp), h0]
  rfl

end Go.Proofs.Ytlfemhkabjafeaa.M

/- Plain law of the log, part 2: segments, in memory and on the disk. -/
set_option linter.unusedVariables false
set_option linter.unusedSimpArgs false
namespace Go.Proofs.Ytlfemhkabjafeaa.M

/-- A segment: its first number, its records. -/
abbrev Sg : Type := Nat × List (List UInt8)
def sgB (g : Sg) : List UInt8 := segB g.1 g.2
def sgN (g : Sg) : Nat := g.1 + g.2.length
/-- The next number. -/
def nextS (segs : List Sg) : Nat := match segs.getLast? with
  | none => 0
  | some g => sgN g

theorem nextS_app (pre : List Sg) (g : Sg) : nextS (pre ++ [g]) = sgN g := by simp [nextS]

/-- Each segment begins where the one ahead ends, which is not empty. -/
def Chn : Option Nat → List Sg → Prop
  | _, [] => True
  | e, g :: r => (∀ n, e = some n → g.1 = n) ∧ (r ≠ [] → 0 < g.2.length) ∧ Chn (some (sgN g)) r

theorem Chn.ge : ∀ {r : List Sg} {n : Nat}, Chn (some n) r → ∀ h ∈ r, n ≤ h.1
  | [], _, _ => by simp
  | g :: r, n, h => by
    obtain ⟨h1, h2, h3⟩ := h
    intro x hx
    have := h1 n rfl
    rcases List.mem_cons.1 hx with rfl | hx
    · omega
    · have := h3.ge x hx
      unfold sgN at this; omega

theorem Chn.rise : ∀ {r : List Sg} {e : Option Nat}, Chn e r → r.Pairwise (fun g h => g.1 < h.1)
  | [], _, _ => List.Pairwise.nil
  | g :: r, e, h => by
    obtain ⟨h1, h2, h3⟩ := h
    refine List.pairwise_cons.2 ⟨fun x hx => ?_, h3.rise⟩
    have := h3.ge x hx
    have := h2 (List.ne_nil_of_mem hx)
    unfold sgN at *; omega

/-- Another end. -/
theorem Chn.last : ∀ {pre : List Sg} {e : Option Nat} {g h : Sg}, Chn e (pre ++ [g]) → h.1 = g.1 → Chn e (pre ++ [h])
  | [], e, g, h, hc, he => by
    obtain ⟨h1, h2, h3⟩ := hc
    exact ⟨fun n hn => by rw [he]; exact h1 n hn, by simp, trivial⟩
  | a :: pre, e, g, h, hc, he => by
    obtain ⟨h1, h2, h3⟩ := hc
    refine ⟨h1, fun _ => h2 (by simp), ?_⟩
    exact Chn.last (pre := pre) h3 he

/-- One more. -/
theorem Chn.snoc : ∀ {pre : List Sg} {e : Option Nat} {g h : Sg}, Chn e (pre ++ [g]) → h.1 = sgN g → 0 < g.2.length → Chn e (pre ++ [g] ++ [h])
  | [], e, g, h, hc, he, hp => by
    obtain ⟨h1, h2, h3⟩ := hc
    exact ⟨h1, fun _ => hp, fun n hn => by rw [he]; simpa using hn, by simp, trivial⟩
  | a :: pre, e, g, h, hc, he, hp => by
    obtain ⟨h1, h2, h3⟩ := hc
    refine ⟨h1, fun _ => h2 (by simp), ?_⟩
    exact Chn.snoc (pre := pre) h3 he hp

theorem Chn.tail {g : Sg} {r : List Sg} {e : Option Nat} (h : Chn e (g :: r)) : Chn none r := by
  obtain ⟨h1, h2, h3⟩ := h
  cases r with
  | nil => trivial
  | cons a r => exact ⟨by simp, h3.2.1, h3.2.2⟩

/-- What the segments are at any time. -/
structure Good (segs : List Sg) : Prop where
  chain : Chn none segs
  recs : ∀ g ∈ segs, ∀ x ∈ g.2, OkR x
  top : ∀ g ∈ segs, sgN g ≤ 1000000

theorem Good.len {segs : List Sg} (h : Good segs) {g : Sg} (hg : g ∈ segs) : (sgB g).length ≤ g.2.length * 1048 := by
  have := h.top g hg
  unfold sgN at this
  exact segB_len g.1 g.2 (by unfold OkN; omega) (h.recs g hg)

theorem Good.lenB {segs : List Sg} (h : Good segs) {g : Sg} (hg : g ∈ segs) : (sgB g).length ≤ 1048000000 := by
  have h1 := h.len hg
  have h2 := h.top g hg
  unfold sgN at h2
  omega

/-! ### In memory -/
/-- A segment lies at that place. -/
abbrev Lie (σ : St) (j : Nat) (g : Sg) : Prop := σ.t130[j]? = some ((g.1 : Int), g.2, ((sgB g).length : Int), ())

structure LG (σ : St) (l d : Nat) (most : Int) (js : List Nat) (segs : List Sg) (safe : Nat) : Prop where
  lo : σ.t128[l]? = some (some d, nmL, most, js.map some, (safe : Int), ())
  nd : js.Nodup
  lie : All2 (Lie σ) js segs

theorem All2.app {α β : Type} {R : α → β → Prop} : ∀ {a : List α} {b : List β} {a' : List α} {b' : List β}, All2 R a b → All2 R a' b' → All2 R (a ++ a') (b ++ b')
  | [], [], _, _, _, h => h
  | _ :: _, _ :: _, _, _, ⟨h1, h2⟩, h => ⟨h1, All2.app h2 h⟩
  | [], _ :: _, _, _, h, _ => h.elim
  | _ :: _, [], _, _, h, _ => h.elim

theorem All2.split {α β : Type} {R : α → β → Prop} : ∀ {a : List α} {b : List β} {y : β}, All2 R a (b ++ [y]) → ∃ a' x, a = a' ++ [x] ∧ All2 R a' b ∧ R x y
  | [], b, y, h => by cases b <;> exact h.elim
  | x :: a, [], y, h => by
    obtain ⟨h1, h2⟩ := h
    cases a with
    | nil => exact ⟨[], x, rfl, trivial, h1⟩
    | cons _ _ => exact h2.elim
  | x :: a, z :: b, y, h => by
    obtain ⟨h1, h2⟩ := h
    obtain ⟨a', x', e, h3, h4⟩ := All2.split (b := b) h2
    exact ⟨x :: a', x', by rw [e]; rfl, ⟨h1, h3⟩, h4⟩

theorem All2.nth {α β : Type} {R : α → β → Prop} : ∀ {a : List α} {b : List β} (h : All2 R a b) (i : Nat) (h1 : i < a.length) (h2 : i < b.length), R a[i] b[i]
  | [], _, _, i, h1, _ => by simp at h1
  | _ :: _, [], h, _, _, _ => h.elim
  | x :: a, y :: b, h, 0, _, _ => h.1
  | x :: a, y :: b, h, i + 1, h1, h2 => All2.nth h.2 i (by simpa using h1) (by simpa using h2)

theorem All2.len {α β : Type} {R : α → β → Prop} : ∀ {a : List α} {b : List β}, All2 R a b → a.length = b.length
  | [], [], _ => rfl
  | _ :: _, _ :: _, ⟨_, h⟩ => by simp [All2.len h]
  | [], _ :: _, h => h.elim
  | _ :: _, [], h => h.elim

theorem All2.imp2 {α β : Type} {R S : α → β → Prop} : ∀ {a : List α} {b : List β}, All2 R a b → (∀ x ∈ a, ∀ y, R x y → S x y) → All2 S a b
  | [], [], _, _ => trivial
  | x :: _, y :: _, ⟨h1, h2⟩, h => ⟨h x List.mem_cons_self y h1, All2.imp2 h2 (fun z hz => h z (List.mem_cons_of_mem _ hz))⟩
  | [], _ :: _, h, _ => h.elim
  | _ :: _, [], h, _ => h.elim

section
variable {σ : St} {l d : Nat} {most : Int} {js : List Nat} {segs : List Sg} {safe : Nat}

theorem LG.same (h : LG σ l d most js segs safe) {σ' : St} (e : oth3 σ' = oth3 σ) : LG σ' l d most js segs safe := by
  have h1 : σ'.t128 = σ.t128 := congrArg (fun x => x.2.1) e
  have h2 : σ'.t130 = σ.t130 := congrArg (fun x => x.2.2) e
  refine ⟨by rw [h1]; exact h.lo, h.nd, h.lie.imp2 (fun j _ g hg => ?_)⟩
  show σ'.t130[j]? = _
  rw [h2]; exact hg

theorem LG.lt (h : LG σ l d most js segs safe) : ∀ j ∈ js, j < σ.t130.length := by
  intro j hj
  obtain ⟨i, hi, rfl⟩ := List.getElem_of_mem hj
  have hl := All2.len h.lie
  have := All2.nth h.lie i hi (by omega)
  exact (List.getElem?_eq_some_iff.1 this).1

theorem LG.split {pre : List Sg} {g : Sg} (h : LG σ l d most js (pre ++ [g]) safe) : ∃ jp j, js = jp ++ [j] ∧ All2 (Lie σ) jp pre ∧ Lie σ j g :=
  All2.split h.lie

theorem f97_none (h : LG σ l d most js [] safe) : f97 (some l) σ = some none := by
  have : js = [] := by
    have := All2.len h.lie
    exact List.eq_nil_of_length_eq_zero (by simpa using this)
  subst this
  unfold f97
  simp [h.lo]

theorem f97_last {pre : List Sg} {g : Sg} (h : LG σ l d most js (pre ++ [g]) safe) (hl : pre.length < 1000000) {jp : List Nat} {j : Nat} (e : js = jp ++ [j]) : f97 (some l) σ = some (some j) := by
  subst e
  have hlen := All2.len h.lie
  simp only [List.length_append, List.length_cons, List.length_nil] at hlen
  unfold f97
  simp only [h.lo, Option.bind_eq_bind, Option.bind_some]
  rw [if_neg (by simp; omega)]
  have hw : IntKind.wrap .i64 ((((jp ++ [j]).map some).length : Int) - 1) = ((jp.length : Nat) : Int) := by
    simp only [List.length_map, List.length_append, List.length_cons, List.length_nil]
    rw [wrap_id (by omega) (by omega)]; omega
  have hi : jp.length < ((jp ++ [j]).map some).length := by simp
  rw [hw, ix_at hi]
  simp

theorem nextS_le (hg : Good segs) : nextS segs ≤ 1000000 := by
  rcases List.eq_nil_or_concat segs with rfl | ⟨pre, g, rfl⟩
  · simp [nextS]
  · rw [List.concat_eq_append] at *
    rw [nextS_app]
    exact hg.top g (by simp)

theorem f55_eq (h : LG σ l d most js segs safe) (hg : Good segs) (hl : segs.length ≤ 1000000) : f55 (some l) σ = some ((nextS segs : Nat) : Int) := by
  rcases List.eq_nil_or_concat segs with rfl | ⟨pre, g, rfl⟩
  · have : js = [] := by
      have := All2.len h.lie
      exact List.eq_nil_of_length_eq_zero (by simpa using this)
    subst this
    unfold f55
    simp [h.lo, nextS]
  · rw [List.concat_eq_append] at *
    obtain ⟨jp, j, e, h1, h2⟩ := h.split
    have e97 := f97_last h (by simp at hl; omega) e
    have ht := hg.top g (by simp)
    unfold sgN at ht
    unfold f55
    simp only [h.lo, e97, Option.isNone_some, Bool.false_eq_true, if_false, Option.bind_eq_bind, Option.bind_some]
    rw [if_neg (by rw [e]; simp; omega), h2]
    simp only [Option.bind_some]
    rw [nextS_app, wrap_id (by omega) (by omega)]
    unfold sgN
    congr 1

theorem f98_eq (h : LG σ l d most js segs safe) {j : Nat} {g : Int} {x : denFs fs130} (hj : σ.t130[j]? = some x) {n : Nat} (hx : x.1 = (n : Int)) (hn : n ≤ 1099511627776) : f98 (some l) (some j) σ = some (fileL n) := by
  have hl := dig_len13 hn
  unfold f98
  simp only [h.lo, hj, hx, f116_eq n (by omega), Option.bind_eq_bind, Option.bind_some]
  rw [if_pos (by decide), if_pos (by simp; omega)]
  rfl

theorem f98_lie (h : LG σ l d most js segs safe) {j : Nat} {g : Sg} (hj : Lie σ j g) (hn : g.1 ≤ 1099511627776) : f98 (some l) (some j) σ = some (fileL g.1) :=
  f98_eq (g := 0) h hj rfl hn

/-- The first number. -/
def firstS (segs : List Sg) : Nat := match segs with
  | [] => 0
  | g :: _ => g.1

theorem f54_eq (h : LG σ l d most js segs safe) : f54 (some l) σ = some ((firstS segs : Nat) : Int) := by
  obtain ⟨lo, nd, lie⟩ := h
  cases segs with
  | nil =>
    cases js with
    | nil => unfold f54; simp [lo, firstS]
    | cons _ _ => exact lie.elim
  | cons g r =>
    cases js with
    | nil => exact lie.elim
    | cons j jr =>
      obtain ⟨h1, h2⟩ := lie
      unfold f54
      simp only [lo, Option.isNone_some, Bool.false_eq_true, if_false, Option.bind_eq_bind, Option.bind_some]
      have hx : ix ((j :: jr).map some) 0 = some (some j) := by
        have := ix_at (l := (j :: jr).map some) (n := 0) (by simp)
        simpa using this
      rw [if_neg (by simp; omega), hx]
      simp only [Option.bind_some, h1]
      rfl

theorem f60_eq (h : LG σ l d most js segs safe) : f60 (some l) σ = some (safe : Int) := by
  unfold f60
  simp [h.lo]
end

/-! ### On the disk -/
/-- A segment's file; its first records are safe. -/
def lgF (g : Sg) (s : Nat) : FR := (fileL g.1, segB g.1 (g.2.take s), segB (g.1 + s) (g.2.drop s), ())
def lgA (g : Sg) : FR := (fileL g.1, sgB g, [], ())

theorem lgF_all (g : Sg) : lgF g g.2.length = lgA g := by simp [lgF, lgA, sgB, segB]

theorem lgF_bytes (g : Sg) {s : Nat} (hs : s ≤ g.2.length) : (lgF g s).2.1 ++ (lgF g s).2.2.1 = sgB g := by
  unfold lgF sgB
  simp only []
  have h1 : (g.2.take s).length = s := by rw [List.length_take]; omega
  have h2 := segB_app g.1 (g.2.take s) (g.2.drop s)
  rw [h1, List.take_append_drop] at h2
  exact h2.symm

/-- The files of the segments; but for the last one all is safe. -/
inductive DLs (L : List FR) : List Sg → Nat → Prop
  | none : L = [] → DLs L [] 0
  | some {pre : List Sg} {g : Sg} {s : Nat} : L.Perm (pre.map lgA ++ [lgF g s]) → s ≤ g.2.length → DLs L (pre ++ [g]) s

theorem DLs.inv {L : List FR} {pre : List Sg} {g : Sg} {s : Nat} (h : DLs L (pre ++ [g]) s) : L.Perm (pre.map lgA ++ [lgF g s]) ∧ s ≤ g.2.length := by
  generalize hs : pre ++ [g] = segs at h
  cases h with
  | none _ => simp at hs
  | some h1 h2 =>
    obtain ⟨rfl, e⟩ := List.append_inj' hs rfl
    simp only [List.cons.injEq, and_true] at e
    subst e
    exact ⟨h1, h2⟩

theorem DLs.inv0 {L : List FR} {s : Nat} (h : DLs L [] s) : L = [] ∧ s = 0 := by
  generalize hs : ([] : List Sg) = segs at h
  cases h with
  | none h => exact ⟨h, rfl⟩
  | some _ _ => simp at hs

theorem DLs.names {L : List FR} {segs : List Sg} {s : Nat} (h : DLs L segs s) : (L.map (·.1)).Perm (segs.map (fun g => fileL g.1)) := by
  cases h with
  | none h => subst h; exact List.Perm.refl _
  | some h1 h2 =>
    refine (h1.map _).trans ?_
    rw [List.map_append, List.map_append, List.map_map]
    exact List.Perm.refl _

/-! ### The numbers of all segments -/
def numL (x : List UInt8) : Option Int := if 4 < x.length ∧ x.take 4 = [108, 111, 103, 46] then (f140 (x.drop 4)) >>= fun v => if 0 ≤ v then some v else none else none

theorem numL_file {n : Nat} (hn : n ≤ 1099511627776) : numL (fileL n) = some (n : Int) := by
  unfold numL
  have hp := dig_pos n
  have e1 : (fileL n).drop 4 = dig n := rfl
  have e2 : (fileL n).take 4 = [108, 111, 103, 46] := rfl
  have e3 : (fileL n).length = (dig n).length + 4 := rfl
  rw [if_pos ⟨by omega, e2⟩, e1, f140_dig hn]
  simp only [Option.bind_eq_bind, Option.bind_some]
  rw [if_pos (by omega)]

section
variable {σ : St} {l d n0 : Nat} {A : AD}

theorem f114_loop {o : denFs fs128} (h : σ.t128[l]? = some o) (hnm : o.2.1 = nmL) (names : List (List UInt8)) (hN : ∀ x ∈ names, ∃ n : Nat, n ≤ 1099511627776 ∧ x = fileL n) (hl : names.length ≤ 128) : ∀ (m i : Nat) (acc : List Int), i + m = names.length → acc.length ≤ i →
    f114_l0 (some l) σ names acc (i : Int) = some (acc ++ (names.drop i).filterMap numL, (names.length : Int))
  | 0, i, acc, hi, ha => by
    rw [f114_l0]
    have : i = names.length := by omega
    subst this
    simp
  | m + 1, i, acc, hi, ha => by
    rw [f114_l0]
    have hn : i < names.length := by omega
    have hw : IntKind.wrap .i64 ((i : Int) + 1) = ((i + 1 : Nat) : Int) := by rw [wrap_id (by omega) (by omega)]; omega
    have hd : names.drop i = names[i] :: names.drop (i + 1) := by simp
    have h1 : ((i : Int) < (names.length : Int)) := by omega
    obtain ⟨n, hn1, hn2⟩ := hN names[i] (List.getElem_mem hn)
    have e4 : IntKind.wrap .i64 (((nmL.length : Nat) : Int) + 1) = 4 := by decide
    have t4 : Int.toNat 4 = 4 := rfl
    have hlen := fileL_len hn1
    have hp := dig_pos n
    have e1 : (fileL n).drop 4 = dig n := rfl
    have e2 : (fileL n).take 4 = [108, 111, 103, 46] := rfl
    have e3 : (fileL n).length = (dig n).length + 4 := rfl
    simp only [h1, decide_true, if_true, ix_at hn, Option.bind_eq_bind, Option.bind_some, h, hnm, e4, hw, hn2]
    rw [if_pos (by simp; omega), if_pos (by omega)]
    simp only [t4]
    rw [if_pos (by decide), e2]
    have e5 : nmL ++ [46] = ([108, 111, 103, 46] : List UInt8) := rfl
    rw [e5, if_pos (by simp), if_pos (by omega), e1, f140_dig hn1]
    simp only [Option.bind_some]
    rw [if_pos (by simp), if_pos (by omega), f114_loop h hnm names hN hl m (i + 1) (acc ++ [(n : Int)]) (by omega) (by simp; omega), hd, List.filterMap_cons, hn2, numL_file hn1]
    simp

theorem sortedI_eq2 {l l' : List Int} (h : l.Perm l') (hs : l'.Pairwise (· < ·)) : sortedI l = l' := by
  unfold sortedI
  have hp := (List.mergeSort_perm l (fun x y => decide (x ≤ y))).trans h
  refine hp.eq_of_pairwise (le := fun x y => x ≤ y) ?_ ?_ ?_
  · intro a b _ _ h1 h2; omega
  · have := List.pairwise_mergeSort (le := fun x y : Int => decide (x ≤ y)) (fun a b c h1 h2 => by simp only [decide_eq_true_eq] at *; omega) (fun a b => by simp only [Bool.or_eq_true, decide_eq_true_eq]; omega) l
    exact this.imp (fun h => by simpa using h)
  · exact hs.imp (fun h => by omega)

/-- The numbers of the segments' first records. -/
def firsts (segs : List Sg) : List Int := segs.map (fun g => (g.1 : Int))

theorem f114_eq {o : denFs fs128} (h : σ.t128[l]? = some o) (hnm : o.2.1 = nmL) (ho : o.1 = some d) (hD : DV σ d n0 A) (hA : OkA A) {segs : List Sg} (hN : (A.2.1.map (·.1)).Perm (segs.map (fun g => fileL g.1))) (hg : Good segs) : f114 (some l) σ = some (firsts segs) := by
  obtain ⟨od, qs, hq⟩ := hD
  have hf := hA.files
  unfold f114
  simp only [h, ho, f21_eq hq hA, Option.bind_eq_bind, Option.bind_some]
  have htop : ∀ g ∈ segs, g.1 ≤ 1099511627776 := fun g hg2 => by have := hg.top g hg2; unfold sgN at this; omega
  have hNn : ∀ x ∈ A.2.1.map (·.1), ∃ n : Nat, n ≤ 1099511627776 ∧ x = fileL n := by
    intro x hx
    obtain ⟨g, hg2, rfl⟩ := List.mem_map.1 (hN.mem_iff.1 hx)
    exact ⟨g.1, htop g hg2, rfl⟩
  have e := f114_loop h hnm (A.2.1.map (·.1)) hNn (by simpa using hf) (A.2.1.map (·.1)).length 0 [] (by omega) (by simp)
  rw [show (((0 : Nat) : Int)) = (0 : Int) from rfl] at e
  rw [e]
  simp only [Option.bind_some, List.nil_append, List.drop_zero]
  have hlen : ((A.2.1.map (·.1)).filterMap numL).length ≤ 128 := by
    refine Nat.le_trans (List.length_filterMap_le _ _) ?_
    simpa using hf
  rw [if_pos (by omega)]
  congr 1
  refine sortedI_eq2 ?_ ?_
  · refine (hN.filterMap numL).trans ?_
    have : ∀ r : List Sg, (∀ g ∈ r, g ∈ segs) → (r.map (fun g => fileL g.1)).filterMap numL = firsts r := by
      intro r
      induction r with
      | nil => intro _; rfl
      | cons g r ih =>
        intro hr
        rw [List.map_cons, List.filterMap_cons, numL_file (htop g (hr g List.mem_cons_self)), ih (fun x hx => hr x (List.mem_cons_of_mem _ hx))]
        rfl
    rw [this segs (fun g hg => hg)]
  · unfold firsts
    rw [List.pairwise_map]
    exact hg.chain.rise.imp (fun h => by omega)
end
end Go.Proofs.Ytlfemhkabjafeaa.M

/- Plain law: what a write on a disk comes to. -/
set_option linter.unusedVariables false
set_option linter.unusedSimpArgs false
namespace Go.Proofs.Ytlfemhkabjafeaa.M

theorem dropL_self {s : List UInt8} {L : List FR} (h : ∀ f ∈ L, f.1 ≠ s) : dropL s L = L := by
  rw [dropL_eq, List.filter_eq_self]
  intro f hf; simpa using h f hf

theorem dropL_append (s : List UInt8) (L L' : List FR) : dropL s (L ++ L') = dropL s L ++ dropL s L' := by
  rw [dropL_eq, dropL_eq, dropL_eq, List.filter_append]

theorem dropL_all {s : List UInt8} {L : List FR} (h : ∀ f ∈ L, f.1 = s) : dropL s L = [] := by
  rw [dropL_eq, List.filter_eq_nil_iff]
  intro f hf; simpa using h f hf

/-! ### A write -/
theorem write_cases {A : AD} (hA : OkA A) (hd : A.2.2.2.1 = false) (k : AD → AD) : ∃ B : AD, B.1 = A.1 ∧ B.2.1 = A.2.1 ∧ OkA B ∧ (A.2.2.1 = 0 → B.2.2.1 = 0) ∧
    ((B.2.2.2.1 = false ∧ writeA A k = (0, k B)) ∨ (B.2.2.2.1 = true ∧ A.2.2.1 ≠ 0 ∧ writeA A k = (11, B))) := by
  refine ⟨(goesA A).2, (goesA_L A).2, (goesA_L A).1, hA.goes, ?_, ?_⟩
  · intro h
    unfold goesA
    rw [if_pos h]; exact h
  · unfold writeA goesA
    by_cases h : A.2.2.1 = 0
    · rw [if_pos h]
      exact .inl ⟨hd, by simp⟩
    · rw [if_neg h]
      by_cases h1 : A.2.2.1 = 1
      · exact .inr ⟨by simp [h1], h, by simp [h1]⟩
      · have e : ((A.2.2.1 == 1) : Bool) = false := by simpa using h1
        exact .inl ⟨by simp [e], by simp [e]⟩

/-- Is the disk down? -/
abbrev downA (A : AD) : Bool := A.2.2.2.1
abbrev armA0 (A : AD) : Int := A.2.2.1

/-! ### A name taken away -/
theorem remove_cases {A : AD} (hA : OkA A) (hd : downA A = false) {s : List UInt8} {f : FR} (hf : findL s A.2.1 = some f) : ∃ B : AD, B.1 = A.1 ∧ OkA B ∧ (armA0 A = 0 → armA0 B = 0) ∧
    ((downA B = false ∧ B.2.1 = dropL s A.2.1 ∧ removeA A s = (0, B)) ∨ (downA B = true ∧ B.2.1 = A.2.1 ∧ armA0 A ≠ 0 ∧ removeA A s = (11, B))) := by
  obtain ⟨C, h1, h2, h3, h4, h5⟩ := write_cases hA hd (fun B => putA B (dropL s B.2.1))
  have e : removeA A s = writeA A (fun B => putA B (dropL s B.2.1)) := by
    unfold removeA someA
    rw [if_neg (by rw [show A.2.2.2.1 = false from hd]; decide), hf]
  rcases h5 with ⟨h5, h6⟩ | ⟨h5, h6, h7⟩
  · exact ⟨putA C (dropL s C.2.1), h1, h3.dropped s, h4, .inl ⟨h5, by show dropL s C.2.1 = _; rw [h2], by rw [e, h6]⟩⟩
  · exact ⟨C, h1, h3, h4, .inr ⟨h5, h2, h6, by rw [e, h7]⟩⟩

end Go.Proofs.Ytlfemhkabjafeaa.M

/- Plain law of the log, part 3: Sync, and what is read in at first. -/
set_option linter.unusedVariables false
set_option linter.unusedSimpArgs false
namespace Go.Proofs.Ytlfemhkabjafeaa.M

/-- What calls on a log leave as it was, beside logs. -/
structure Fw (σ σ' : St) (d n0 : Nat) : Prop where
  t47 : σ'.t47 = σ.t47
  t105 : ∀ i, i ≠ d → i < σ.t105.length → σ'.t105[i]? = σ.t105[i]?
  l105 : σ.t105.length ≤ σ'.t105.length
  t108 : ∀ j, j < n0 → σ'.t108[j]? = σ.t108[j]?
  l108 : σ.t108.length ≤ σ'.t108.length

/-- What one log leaves of the others, as long as it turns no segment. -/
structure Ex (σ σ' : St) (l : Nat) : Prop where
  t128 : ∀ i, i ≠ l → i < σ.t128.length → σ'.t128[i]? = σ.t128[i]?
  l128 : σ.t128.length ≤ σ'.t128.length
  t130 : ∀ j, j < σ.t130.length → σ'.t130[j]? = σ.t130[j]?
  l130 : σ.t130.length ≤ σ'.t130.length

section
variable {σ : St} {l d n0 : Nat} {most : Int} {js : List Nat} {segs : List Sg} {safe s : Nat} {A : AD}

theorem Ex.refl (σ : St) (l : Nat) : Ex σ σ l := ⟨fun _ _ _ => rfl, Nat.le_refl _, fun _ _ => rfl, Nat.le_refl _⟩
theorem Ex.trans {σ σ' σ'' : St} (h1 : Ex σ σ' l) (h2 : Ex σ' σ'' l) : Ex σ σ'' l :=
  ⟨fun i hi hl => (h2.t128 i hi (Nat.lt_of_lt_of_le hl h1.l128)).trans (h1.t128 i hi hl), Nat.le_trans h1.l128 h2.l128, fun j hj => (h2.t130 j (Nat.lt_of_lt_of_le hj h1.l130)).trans (h1.t130 j hj), Nat.le_trans h1.l130 h2.l130⟩
theorem Ex.of {σ' : St} (h1 : σ'.t128 = σ.t128) (h2 : σ'.t130 = σ.t130) : Ex σ σ' l := ⟨fun _ _ _ => by rw [h1], by rw [h1]; exact Nat.le_refl _, fun _ _ => by rw [h2], by rw [h2]; exact Nat.le_refl _⟩
theorem Fr.ex {σ' : St} (h : Fr σ σ' d n0) : Ex σ σ' l := Ex.of (congrArg (fun x => x.2.1) h.oth) (congrArg (fun x => x.2.2) h.oth)
theorem Ex.set (x : denFs fs128) : Ex σ (σ.set128 l x) l := by
  refine ⟨fun i hi hl => ?_, by simp [St.set128], fun _ _ => rfl, Nat.le_refl _⟩
  simp only [St.set128]
  rw [List.getElem?_set_ne (Ne.symm hi)]
theorem Ex.add (x : denFs fs130) : Ex σ (σ.add130 x) l := by
  refine ⟨fun i hi hl => rfl, Nat.le_refl _, fun j hj => ?_, by simp [St.add130]⟩
  simp only [St.add130]
  rw [List.getElem?_append_left hj]
theorem LG.keep {l' : Nat} {σ' : St} (h : LG σ l d most js segs safe) (hx : Ex σ σ' l') (hne : l ≠ l') : LG σ' l d most js segs safe := by
  refine ⟨?_, h.nd, h.lie.imp2 (fun j hj g hg => ?_)⟩
  · rw [hx.t128 l hne (List.getElem?_eq_some_iff.1 h.lo).1]; exact h.lo
  · show σ'.t130[j]? = _
    rw [hx.t130 j (h.lt j hj)]; exact hg

theorem Fw.refl (σ : St) (d n0 : Nat) : Fw σ σ d n0 := ⟨rfl, fun _ _ _ => rfl, Nat.le_refl _, fun _ _ => rfl, Nat.le_refl _⟩
theorem Fw.trans {σ σ' σ'' : St} (h1 : Fw σ σ' d n0) (h2 : Fw σ' σ'' d n0) : Fw σ σ'' d n0 :=
  ⟨h2.t47.trans h1.t47, fun i hi hl => (h2.t105 i hi (Nat.lt_of_lt_of_le hl h1.l105)).trans (h1.t105 i hi hl), Nat.le_trans h1.l105 h2.l105, fun j hj => (h2.t108 j hj).trans (h1.t108 j hj), Nat.le_trans h1.l108 h2.l108⟩
theorem Fr.fw {σ σ' : St} (h : Fr σ σ' d n0) : Fw σ σ' d n0 := ⟨h.t47, h.t105, h.l105, h.t108, h.l108⟩
theorem Fw.of {σ' : St} (h1 : σ'.t47 = σ.t47) (h2 : σ'.t105 = σ.t105) (h3 : σ'.t108 = σ.t108) : Fw σ σ' d n0 :=
  ⟨h1, fun i _ _ => by rw [h2], by rw [h2]; exact Nat.le_refl _, fun i _ => by rw [h3], by rw [h3]; exact Nat.le_refl _⟩
theorem Keeps.ofw {σ' : St} {y : denFs fs105} (hf : Fw (σ.add105 y) σ' σ.t105.length σ.t108.length) : Keeps σ σ' := by
  refine ⟨hf.t47, fun i hi => ?_, fun j hj => hf.t108 j hj, hf.l108⟩
  rw [hf.t105 i (by omega) (by simp [St.add105]; omega)]
  simp only [St.add105]
  rw [List.getElem?_append_left hi]

/-! ### The log's own tables -/
theorem LG.put (h : LG σ l d most js segs safe) (n : Nat) : LG (σ.set128 l (some d, nmL, most, js.map some, (n : Int), ())) l d most js segs n :=
  ⟨set128_get h.lo, h.nd, h.lie⟩

theorem LG.add (h : LG σ l d most js segs safe) (x : denFs fs130) : LG (σ.add130 x) l d most js segs safe := by
  refine ⟨h.lo, h.nd, h.lie.imp2 (fun j hj g hg => ?_)⟩
  show (σ.t130 ++ [x])[j]? = _
  rw [List.getElem?_append_left (h.lt j hj)]; exact hg

theorem LG.link (h : LG σ l d most js segs safe) {j : Nat} {g : Sg} (hj : Lie σ j g) (hn : j ∉ js) : LG (σ.set128 l (some d, nmL, most, js.map some ++ [some j], (safe : Int), ())) l d most (js ++ [j]) (segs ++ [g]) safe := by
  refine ⟨?_, ?_, ?_⟩
  · rw [List.map_append]; exact set128_get h.lo
  · rw [List.nodup_append]
    refine ⟨h.nd, by simp, fun a ha b hb e => ?_⟩
    simp only [List.mem_cons, List.not_mem_nil, or_false] at hb
    rw [e, hb] at ha
    exact hn ha
  · exact All2.app h.lie (show All2 _ [j] [g] from ⟨hj, trivial⟩)

theorem set130_add {x y : denFs fs130} : (σ.add130 x).set130 σ.t130.length y = σ.add130 y := by
  unfold St.set130 St.add130
  simp

/-! ### Sync -/
/-- How many records the last segment has. -/
def lastLen (segs : List Sg) : Nat := match segs.getLast? with
  | none => 0
  | some g => g.2.length

theorem lastLen_app (pre : List Sg) (g : Sg) : lastLen (pre ++ [g]) = g.2.length := by simp [lastLen]

theorem Good.top12 (hg : Good segs) {g : Sg} (h : g ∈ segs) : g.1 ≤ 1099511627776 := by
  have := hg.top g h
  unfold sgN at this; omega

theorem firsts_apart {pre : List Sg} {g : Sg} (h : Chn none (pre ++ [g])) : ∀ f ∈ pre.map lgA, f.1 ≠ fileL g.1 := by
  intro f hf
  obtain ⟨a, ha, rfl⟩ := List.mem_map.1 hf
  have := (List.pairwise_append.1 h.rise).2.2 a ha g (by simp)
  intro e
  exact Nat.ne_of_lt this (fileL_inj e)

/-- The last file, and the others. -/
theorem last_find {L : List FR} {pre : List Sg} {g : Sg} {f : FR} (hL : L.Perm (pre.map lgA ++ [f])) (hf : f.1 = fileL g.1) (hs : SortL L) : findL (fileL g.1) L = some f :=
  findL_of hs (hL.mem_iff.2 (by simp)) hf

theorem last_set {L : List FR} {pre : List Sg} {g : Sg} {f f' : FR} (hL : L.Perm (pre.map lgA ++ [f])) (hf : f.1 = fileL g.1) (hf' : f'.1 = fileL g.1) (hc : Chn none (pre ++ [g])) : (setL f' false L).Perm (pre.map lgA ++ [f']) := by
  refine (setL_perm f' L).trans ?_
  rw [hf']
  have h1 := dropL_congr (s := fileL g.1) hL
  rw [dropL_append, dropL_self (firsts_apart hc), dropL_all (L := [f]) (fun x hx => by simp only [List.mem_cons, List.not_mem_nil, or_false] at hx; rw [hx]; exact hf), List.append_nil] at h1
  exact (List.Perm.cons f' h1).trans (List.perm_append_comm (l₁ := [f']))

theorem f61_eq (h : LG σ l d most js segs safe) (hD : DV σ d n0 A) (hA : OkA A) (hg : Good segs) (hlen : segs.length ≤ 1000000) (hL : DLs A.2.1 segs s) (hd : downA A = false) :
    ∃ σ' B e, f61 (some l) σ = some (e, σ') ∧ Fw σ σ' d n0 ∧ Ex σ σ' l ∧ B.1 = A.1 ∧ (armA0 A = 0 → armA0 B = 0) ∧ DV σ' d n0 B ∧ OkA B ∧
      ((e = 0 ∧ downA B = false ∧ LG σ' l d most js segs (nextS segs) ∧ DLs B.2.1 segs (lastLen segs)) ∨ (e = 11 ∧ downA B = true ∧ armA0 A ≠ 0 ∧ LG σ' l d most js segs safe ∧ DLs B.2.1 segs s)) := by
  rcases List.eq_nil_or_concat segs with rfl | ⟨pre, g, rfl⟩
  · obtain ⟨h1, h2⟩ := hL.inv0
    refine ⟨σ.set128 l (some d, nmL, most, js.map some, ((nextS [] : Nat) : Int), ()), A, 0, ?_, Fw.of rfl rfl rfl, Ex.set _, rfl, id, hD.same rfl rfl, hA, .inl ⟨rfl, hd, h.put _, ?_⟩⟩
    · unfold f61
      have hlo := h.lo
      simp only [Option.isNone_some, Bool.false_eq_true, if_false, f97_none h, f55_eq h hg hlen, hlo, Option.bind_eq_bind, Option.bind_some]
      rw [if_neg (by simp)]
    · rw [h1]; exact .none rfl
  · rw [List.concat_eq_append] at *
    obtain ⟨hp, hs⟩ := hL.inv
    obtain ⟨jp, j, e, h1, h2⟩ := h.split
    have htop := hg.top12 (g := g) (by simp)
    obtain ⟨σ1, g1, g2, g3⟩ := f33_eq hD hA (fileL g.1)
    have hfd := last_find hp rfl hA.sorted
    have e0 : syncA A (fileL g.1) = writeA A (fun B => putA B (setL (safeF (fileL g.1) (lgF g s)) false B.2.1)) := by
      unfold syncA someA
      rw [if_neg (by rw [show A.2.2.2.1 = false from hd]; decide), hfd]
    have hsf : safeF (fileL g.1) (lgF g s) = lgF g g.2.length := by
      rw [lgF_all]
      unfold safeF lgA
      rw [lgF_bytes g hs]
    have hlo := h.lo
    have e1 : f61 (some l) σ = some (if (syncA A (fileL g.1)).1 = 0 then (0, σ1.set128 l (some d, nmL, most, js.map some, ((nextS (pre ++ [g]) : Nat) : Int), ())) else ((syncA A (fileL g.1)).1, σ1)) := by
      have h' := h.same g3.oth
      have hlo' := h'.lo
      unfold f61
      simp only [Option.isNone_some, Bool.false_eq_true, if_false, f97_last h (by simp at hlen; omega) e, hlo, f98_lie h h2 htop, g1, Option.bind_eq_bind, Option.bind_some, Bool.not_false, if_true]
      by_cases c : (syncA A (fileL g.1)).1 = 0
      · rw [if_neg (by simp [c]), if_pos c, f55_eq h' hg hlen]
        simp only [Option.bind_some, hlo']
      · rw [if_pos (by simpa using c), if_neg c]
    obtain ⟨B, b1, b2, b3, b4, ⟨b5, b6⟩ | ⟨b5, b6, b7⟩⟩ := write_cases hA hd (fun B => putA B (setL (safeF (fileL g.1) (lgF g s)) false B.2.1))
    · rw [e0, b6] at g2 e1
      refine ⟨σ1.set128 l (some d, nmL, most, js.map some, ((nextS (pre ++ [g]) : Nat) : Int), ()), putA B (setL (safeF (fileL g.1) (lgF g s)) false B.2.1), 0, by rw [e1]; rfl, g3.fw.trans (Fw.of rfl rfl rfl), g3.ex.trans (Ex.set _), b1, b4, g2.same rfl rfl, ?_, .inl ⟨rfl, b5, (h.same g3.oth).put _, ?_⟩⟩
      · refine b3.put (f := lgF g s) (s := fileL g.1) (by rw [b2]; exact hfd) rfl ?_
        simp [fsize, safeF]
      · show DLs (setL (safeF (fileL g.1) (lgF g s)) false B.2.1) (pre ++ [g]) (lastLen (pre ++ [g]))
        rw [b2, hsf, lastLen_app]
        exact .some (last_set hp rfl rfl hg.chain) (Nat.le_refl _)
    · rw [e0, b7] at g2 e1
      exact ⟨σ1, B, 11, by rw [e1]; rfl, g3.fw, g3.ex, b1, b4, g2, b3, .inr ⟨rfl, b5, b6, h.same g3.oth, by rw [b2]; exact .some hp hs⟩⟩

/-! ### A segment read -/
theorem f115_eq (h : LG σ l d most js segs safe) (hD : DV σ d n0 A) (hA : OkA A) {g : Sg} {t : List UInt8} (hr : readA A (fileL g.1) = (sgB g ++ t, 0)) (ht : Torn (sgN g) t) (hx : ∀ x ∈ g.2, OkR x) (hn : sgN g ≤ 1000000) :
    f115 (some l) (g.1 : Int) σ = some ((some σ.t130.length, (t.length : Int), 0), σ.add130 ((g.1 : Int), g.2, ((sgB g).length : Int), ())) := by
  unfold sgN at hn ht
  have h1 := h.add ((g.1 : Int), [], 0, ())
  obtain ⟨o, qs, hq⟩ := hD
  have e28 := f28_eq (hq.same (σ' := σ.add130 ((g.1 : Int), [], 0, ())) rfl rfl) hA (fileL g.1)
  have e98 := f98_eq (g := 0) h1 (j := σ.t130.length) got130 (n := g.1) rfl (by omega)
  have hl := hA.each
  have hlen : (sgB g ++ t).length ≤ 65536 := by
    unfold readA at hr
    split at hr
    · simp at hr
    · split at hr
      · simp at hr
      · rename_i f hf
        simp only [Prod.mk.injEq, and_true] at hr
        have := hA.each f (findL_some hf).1
        unfold fsize at this
        rw [← hr]; simp only [List.length_append]; omega
  have e49 := f49_eq (s := sgB g ++ t) (f := g.1) (recs := g.2) (t := t) (by omega) rfl (by unfold OkN; omega) hx ht
  have hlo : (σ.add130 ((g.1 : Int), [], 0, ())).t128[l]? = some (some d, nmL, most, js.map some, (safe : Int), ()) := h1.lo
  unfold f115
  simp only [hlo, e98, e28, hr, Option.bind_eq_bind, Option.bind_some]
  rw [if_neg (by simp), e49]
  simp only [Option.bind_some]
  rw [set130_add, set130_add]
  have hw : IntKind.wrap .i64 (((sgB g ++ t).length : Int) - ((segB g.1 g.2).length : Int)) = (t.length : Int) := by
    have : (sgB g ++ t).length = (segB g.1 g.2).length + t.length := by rw [List.length_append]; rfl
    rw [this, wrap_id (by omega) (by omega)]; omega
  rw [hw]
  rfl

/-! ### All segments read -/
theorem f96_step (done : List Sg) (r3 : List Int) (x7 x8 : Int) (h : LG σ l d most js done safe) (hD : DV σ d n0 A) (hA : OkA A) {g : Sg} {t : List UInt8} (hi : r3[done.length]? = some (g.1 : Int)) (h7 : done ≠ [] → x7 = 0 ∧ nextS done = g.1) (hgd : Good done) (hdl : done.length ≤ 1000)
    (hr : readA A (fileL g.1) = (sgB g ++ t, 0)) (ht : Torn (sgN g) t) (hx : ∀ x ∈ g.2, OkR x) (hn : sgN g ≤ 1000000) :
    ∃ σ', f96_l0 (some l) r3 x7 x8 ((done.length : Nat) : Int) σ = f96_l0 (some l) r3 (t.length : Int) (((done ++ [g]).length : Nat) : Int) (((done ++ [g]).length : Nat) : Int) σ' ∧ LG σ' l d most (js ++ [σ.t130.length]) (done ++ [g]) safe ∧ σ'.t105 = σ.t105 ∧ σ'.t108 = σ.t108 ∧ σ'.t47 = σ.t47 ∧ Ex σ σ' l := by
  have hlt := (List.getElem?_eq_some_iff.1 hi).1
  have hget := (List.getElem?_eq_some_iff.1 hi).2
  have e115 := f115_eq h hD hA hr ht hx hn
  have h1 := h.add ((g.1 : Int), g.2, ((sgB g).length : Int), ())
  have hnj : σ.t130.length ∉ js := fun hm => by have := h.lt _ hm; omega
  have h2 := h1.link (j := σ.t130.length) (g := g) got130 hnj
  have hjl := All2.len h.lie
  have hlo : (σ.add130 ((g.1 : Int), g.2, ((sgB g).length : Int), ())).t128[l]? = some (some d, nmL, most, js.map some, (safe : Int), ()) := h1.lo
  have hw : IntKind.wrap .i64 ((done.length : Int) + 1) = (((done ++ [g]).length : Nat) : Int) := by rw [wrap_id (by omega) (by omega)]; simp
  refine ⟨_, ?_, h2, rfl, rfl, rfl, (Ex.add _).trans (Ex.set _)⟩
  conv => lhs; rw [f96_l0]
  rw [if_pos (by simp; omega), ix_at hlt, hget]
  simp only [Option.bind_eq_bind, Option.bind_some]
  by_cases c : done = []
  · subst c
    rw [if_neg (by simp), e115]
    simp only [Option.bind_some]
    rw [if_neg (by simp)]
    simp only [Option.bind_some, hlo, hw]
    rw [if_pos (by rw [List.length_map]; omega)]
  · obtain ⟨h3, h4⟩ := h7 c
    subst h3
    have hpos : 0 < done.length := List.length_pos_iff.2 c
    rw [if_pos (by simp; omega), if_neg (by simp), f55_eq h hgd (by omega), h4]
    simp only [Option.bind_some]
    rw [if_neg (by simp), e115]
    simp only [Option.bind_some]
    rw [if_neg (by simp)]
    simp only [Option.bind_some, hlo, hw]
    rw [if_pos (by rw [List.length_map]; omega)]
end
end Go.Proofs.Ytlfemhkabjafeaa.M

/- Plain law of the log, part 4: Open. -/
set_option linter.unusedVariables false
set_option linter.unusedSimpArgs false
namespace Go.Proofs.Ytlfemhkabjafeaa.M

theorem Chn.pref : ∀ {a b : List Sg} {e : Option Nat}, Chn e (a ++ b) → Chn e a
  | [], _, _, _ => trivial
  | g :: a, b, e, h => by
    obtain ⟨h1, h2, h3⟩ := h
    refine ⟨h1, fun hn => h2 (fun he => hn ?_), Chn.pref h3⟩
    exact (List.append_eq_nil_iff.1 he).1

theorem Chn.next : ∀ {pre : List Sg} {b a : Sg} {r : List Sg} {e : Option Nat}, Chn e (pre ++ [b] ++ a :: r) → sgN b = a.1
  | [], b, a, r, e, h => by
    obtain ⟨h1, h2, h3⟩ := h
    exact (h3.1 _ rfl).symm
  | c :: pre, b, a, r, e, h => Chn.next (pre := pre) h.2.2

theorem Good.pref {a b : List Sg} (h : Good (a ++ b)) : Good a :=
  ⟨h.chain.pref, fun g hg => h.recs g (List.mem_append.2 (.inl hg)), fun g hg => h.top g (List.mem_append.2 (.inl hg))⟩

/-- A segment's file with a torn end. -/
def tornF (g : Sg) (t : List UInt8) : FR := (fileL g.1, sgB g ++ t, [], ())

section
variable {σ : St} {l d n0 : Nat} {most : Int} {js : List Nat} {segs : List Sg} {safe s : Nat} {A : AD}

theorem f96_loads {g : Sg} {t : List UInt8} (ht : Torn (sgN g) t) (hA : OkA A) : ∀ (mid done : List Sg) (js : List Nat) (σ : St) (x7 x8 : Int), LG σ l d most js done safe → DV σ d n0 A → (done ≠ [] → x7 = 0) → Good (done ++ (mid ++ [g])) → (done ++ (mid ++ [g])).length ≤ 1000 →
    (∀ a ∈ mid, readA A (fileL a.1) = (sgB a, 0)) → readA A (fileL g.1) = (sgB g ++ t, 0) →
    ∃ σ' js', f96_l0 (some l) (firsts (done ++ (mid ++ [g]))) x7 x8 ((done.length : Nat) : Int) σ = some (.inl ((t.length : Int), (((done ++ (mid ++ [g])).length : Nat) : Int), (((done ++ (mid ++ [g])).length : Nat) : Int), σ')) ∧ LG σ' l d most js' (done ++ (mid ++ [g])) safe ∧ σ'.t105 = σ.t105 ∧ σ'.t108 = σ.t108 ∧ σ'.t47 = σ.t47 ∧ Ex σ σ' l
  | [], done, js, σ, x7, x8, h, hD, h7, hg, hlen, hm, hr => by
    rw [List.nil_append] at *
    have hgm : g ∈ done ++ [g] := by simp
    obtain ⟨σ', e, h1, h2, h3, h4, h5⟩ := f96_step (t := t) done (firsts (done ++ [g])) x7 x8 h hD hA (g := g) (by simp [firsts]) (fun hn => ⟨h7 hn, by
      rcases List.eq_nil_or_concat done with rfl | ⟨pre, b, rfl⟩
      · exact absurd rfl hn
      · rw [List.concat_eq_append] at *
        rw [nextS_app]; exact hg.chain.next⟩) hg.pref (by simp at hlen; omega) hr ht (hg.recs g hgm) (hg.top g hgm)
    refine ⟨σ', _, ?_, h1, h2, h3, h4, h5⟩
    rw [e, f96_l0]
    rw [if_neg (by simp [firsts])]
  | a :: mid, done, js, σ, x7, x8, h, hD, h7, hg, hlen, hm, hr => by
    have ham : a ∈ done ++ (a :: mid ++ [g]) := by simp
    have hgood : Good done := hg.pref
    have hr1 : readA A (fileL a.1) = (sgB a ++ [], 0) := by rw [List.append_nil]; exact hm a List.mem_cons_self
    obtain ⟨σ1, e, h1, h2, h3, h4, h5⟩ := f96_step (t := []) done (firsts (done ++ (a :: mid ++ [g]))) x7 x8 h hD hA (g := a) (by simp [firsts]) (fun hn => ⟨h7 hn, by
      rcases List.eq_nil_or_concat done with rfl | ⟨pre, b, rfl⟩
      · exact absurd rfl hn
      · rw [List.concat_eq_append] at *
        rw [nextS_app]; exact hg.chain.next⟩) hgood (by simp at hlen; omega) hr1 (Torn.nil _) (hg.recs a ham) (hg.top a ham)
    have ea : done ++ (a :: mid ++ [g]) = (done ++ [a]) ++ (mid ++ [g]) := by simp
    rw [ea] at e hg hlen ⊢
    obtain ⟨σ', js', i1, i2, i3, i4, i5, i6⟩ := f96_loads ht hA mid (done ++ [a]) _ σ1 0 (((done ++ [a]).length : Nat) : Int) h1 (hD.same h2 h3) (fun _ => rfl) hg hlen (fun x hx => hm x (List.mem_cons_of_mem _ hx)) hr
    refine ⟨σ', js', ?_, i2, i3.trans h2, i4.trans h3, i5.trans h4, h5.trans i6⟩
    rw [e]; exact i1

theorem f96_l1_end {p0 : Option Nat} {r3 : List Int} {z : Int × Int × Int × St} {o : denFs fs128} {x : Int} (h : x < z.2.1) : f96_l1 p0 r3 z o x σ = some (.inl (x, σ)) := by
  rw [f96_l1]
  rw [if_neg (by simp; omega)]

/-- What is read of the files. -/
theorem torn_reads {L : List FR} {pre : List Sg} {g : Sg} {t : List UInt8} (hp : A.2.1.Perm (pre.map lgA ++ [tornF g t])) (hA : OkA A) (hd : downA A = false) :
    (∀ a ∈ pre, readA A (fileL a.1) = (sgB a, 0)) ∧ readA A (fileL g.1) = (sgB g ++ t, 0) := by
  have hdd : A.2.2.2.1 = false := hd
  refine ⟨fun a ha => ?_, ?_⟩
  · have hf : findL (fileL a.1) A.2.1 = some (lgA a) := findL_of hA.sorted (hp.mem_iff.2 (List.mem_append.2 (.inl (List.mem_map.2 ⟨a, ha, rfl⟩)))) rfl
    unfold readA
    rw [if_neg (by rw [hdd]; decide), hf]
    simp [lgA]
  · have hf : findL (fileL g.1) A.2.1 = some (tornF g t) := findL_of hA.sorted (hp.mem_iff.2 (by simp)) rfl
    unfold readA
    rw [if_neg (by rw [hdd]; decide), hf]
    simp [tornF]

theorem f96_eq {pre : List Sg} {g : Sg} {t : List UInt8} (h : LG σ l d most [] [] 0) (hD : DV σ d n0 A) (hA : OkA A) (hd : downA A = false) (h0 : armA0 A = 0) (hg : Good (pre ++ [g])) (hlen : (pre ++ [g]).length ≤ 1000) (ht : Torn (sgN g) t) (hp : A.2.1.Perm (pre.map lgA ++ [tornF g t])) :
    ∃ σ' B js', f96 (some l) σ = some (0, σ') ∧ Fw σ σ' d n0 ∧ Ex σ σ' l ∧ B.1 = A.1 ∧ armA0 B = 0 ∧ downA B = false ∧ DV σ' d n0 B ∧ OkA B ∧ LG σ' l d most js' (pre ++ [g]) (nextS (pre ++ [g])) ∧ DLs B.2.1 (pre ++ [g]) (lastLen (pre ++ [g])) := by
  have hlo := h.lo
  obtain ⟨r1, r2⟩ := torn_reads (L := []) hp hA hd
  have e114 := f114_eq (o := (some d, nmL, most, ([] : List Nat).map some, (((0 : Nat) : Nat) : Int), ())) hlo rfl rfl hD hA (segs := pre ++ [g]) (by
    refine (hp.map _).trans ?_
    rw [List.map_append, List.map_append, List.map_map]
    exact List.Perm.refl _) hg
  obtain ⟨σ1, js1, i1, i2, i3, i4, i5, i6⟩ := f96_loads ht hA pre [] [] σ 0 0 h hD (by simp) hg hlen r1 r2
  rw [List.nil_append] at i1 i2
  have i1' : f96_l0 (some l) (firsts (pre ++ [g])) 0 0 0 σ = some (.inl ((t.length : Int), (((pre ++ [g]).length : Nat) : Int), (((pre ++ [g]).length : Nat) : Int), σ1)) := i1
  have hlo1 := i2.lo
  have hD1 : DV σ1 d n0 A := hD.same i3 i4
  have hfw1 : Fw σ σ1 d n0 := Fw.of i5 i3 i4
  obtain ⟨jp, j, ej, l1, l2⟩ := i2.split
  have htop := hg.top12 (g := g) (by simp)
  have hlB := hg.lenB (g := g) (by simp)
  have hl1 : IntKind.wrap .i64 (((firsts (pre ++ [g])).length : Int) - 1) = ((pre.length : Nat) : Int) := by
    simp only [firsts, List.length_map, List.length_append, List.length_cons, List.length_nil] at hlen ⊢
    rw [wrap_id (by omega) (by omega)]; omega
  have hw1 : IntKind.wrap .i64 ((((pre ++ [g]).length : Nat) : Int) - 1) = ((pre.length : Nat) : Int) := by
    simp only [List.length_append, List.length_cons, List.length_nil] at hlen ⊢
    rw [wrap_id (by omega) (by omega)]; omega
  have hjl : jp.length = pre.length := All2.len l1
  have hix : ix (js1.map some) ((pre.length : Nat) : Int) = some (some j) := by
    rw [ej, ← hjl]
    have hi : jp.length < ((jp ++ [j]).map some).length := by simp
    rw [ix_at hi]; simp
  have common : f96 (some l) σ = (if (decide ((t.length : Int) > 0)) = true then
      f98 (some l) (some j) σ1 >>= fun r79 => (σ1.t130[j]?) >>= fun o81 => f35 (some d) r79 o81.2.2.1 σ1 >>= fun r82 => if (r82.1 != 0) = true then some (r82.1, r82.2) else f61 (some l) r82.2 >>= fun r86 => some (r86.1, r86.2)
    else f61 (some l) σ1 >>= fun r88 => some (r88.1, r88.2)) := by
    unfold f96
    rw [e114]
    simp only [Option.bind_eq_bind, Option.bind_some]
    rw [i1']
    simp only [Option.bind_some, hlo1]
    rw [hl1, f96_l1_end (by simp; omega)]
    simp only [Option.bind_some, hlo1]
    rw [if_neg (by simp; omega), hw1, hix]
    rfl
  -- torn or not: the files are whole then
  have fin : ∀ (σ2 : St) (A2 : AD), LG σ2 l d most js1 (pre ++ [g]) 0 → DV σ2 d n0 A2 → OkA A2 → downA A2 = false → armA0 A2 = 0 → A2.2.1.Perm (pre.map lgA ++ [lgA g]) → A2.1 = A.1 → Fw σ σ2 d n0 → Ex σ σ2 l →
      ∃ σ' B, f61 (some l) σ2 = some (0, σ') ∧ Fw σ σ' d n0 ∧ Ex σ σ' l ∧ B.1 = A.1 ∧ armA0 B = 0 ∧ downA B = false ∧ DV σ' d n0 B ∧ OkA B ∧ LG σ' l d most js1 (pre ++ [g]) (nextS (pre ++ [g])) ∧ DLs B.2.1 (pre ++ [g]) (lastLen (pre ++ [g])) := by
    intro σ2 A2 k1 k2 k3 k4 k5 k6 k7 k8 k9
    have hdl : DLs A2.2.1 (pre ++ [g]) g.2.length := .some (by rw [lgF_all]; exact k6) (Nat.le_refl _)
    obtain ⟨σ', B, e, f1, f2, f2x, f3, f4, f5, f6, ⟨rfl, f7, f8, f9⟩ | ⟨_, _, f7, _⟩⟩ := f61_eq k1 k2 k3 hg (by omega) hdl k4
    · exact ⟨σ', B, f1, k8.trans f2, k9.trans f2x, f3.trans k7, f4 k5, f7, f5, f6, f8, f9⟩
    · exact absurd k5 f7
  by_cases c : t = []
  · subst c
    obtain ⟨σ', B, f1, f2⟩ := fin σ1 A i2 hD1 hA hd h0 (by
      have : tornF g [] = lgA g := by simp [tornF, lgA]
      rw [← this]; exact hp) rfl hfw1 i6
    refine ⟨σ', B, js1, ?_, f2⟩
    rw [common, if_neg (by simp), f1]
    rfl
  · have hpos : 0 < t.length := List.length_pos_iff.2 c
    obtain ⟨σ2, g1, g2, g3⟩ := f35_eq hD1 hA (fileL g.1) ((sgB g).length : Int)
    have hfd := last_find hp rfl hA.sorted
    have e0 : truncA A (fileL g.1) ((sgB g).length : Int) = writeA A (fun B => putA B (setL (cutF (fileL g.1) (tornF g t) (sgB g).length) false B.2.1)) := by
      unfold truncA someA
      rw [if_neg (by rw [show A.2.2.2.1 = false from hd]; decide), hfd]
      simp only []
      have hsz : fsize (tornF g t) = (sgB g).length + t.length := by simp [fsize, tornF]
      rw [if_neg (by rw [hsz]; omega)]
      have : Int.toNat ((sgB g).length : Int) = (sgB g).length := by omega
      rw [this]
    have hcut : cutF (fileL g.1) (tornF g t) (sgB g).length = lgA g := by
      unfold cutF tornF lgA
      rw [if_pos (by simp)]
      simp
    obtain ⟨B, b1, b2, b3, b4, ⟨b5, b6⟩ | ⟨b5, b6, b7⟩⟩ := write_cases hA hd (fun B => putA B (setL (cutF (fileL g.1) (tornF g t) (sgB g).length) false B.2.1))
    case inr => exact absurd h0 b6
    rw [e0, b6] at g1 g2
    have hok : OkA (putA B (setL (cutF (fileL g.1) (tornF g t) (sgB g).length) false B.2.1)) := by
      refine b3.put (f := tornF g t) (s := fileL g.1) (by rw [b2]; exact hfd) (by rw [hcut]; rfl) ?_
      rw [hcut]; simp [fsize, lgA, tornF]
    obtain ⟨σ', B2, f1, f2⟩ := fin σ2 _ (i2.same g3.oth) g2 hok b5 (b4 h0) (by
      show (setL (cutF (fileL g.1) (tornF g t) (sgB g).length) false B.2.1).Perm _
      rw [b2, hcut]
      exact last_set hp rfl rfl hg.chain) b1 (hfw1.trans g3.fw) (i6.trans g3.ex)
    refine ⟨σ', B2, js1, ?_, f2⟩
    rw [common, if_pos (by simpa using hpos), f98_lie i2 l2 htop]
    simp only [Option.bind_eq_bind, Option.bind_some, l2]
    rw [g1]
    simp only [Option.bind_some]
    rw [if_neg (by simp), f1]
    rfl

theorem f96_none (h : LG σ l d most [] [] 0) (hD : DV σ d n0 A) (hA : OkA A) (hL : A.2.1 = []) : f96 (some l) σ = some (0, σ) := by
  have hlo := h.lo
  have e114 := f114_eq (o := (some d, nmL, most, ([] : List Nat).map some, (((0 : Nat) : Nat) : Int), ())) hlo rfl rfl hD hA (segs := []) (by rw [hL]; exact List.Perm.refl _) ⟨trivial, by simp, by simp⟩
  unfold f96
  rw [e114]
  simp only [Option.bind_eq_bind, Option.bind_some]
  have e1 : f96_l0 (some l) (firsts []) 0 0 0 σ = some (.inl (0, 0, 0, σ)) := by
    rw [f96_l0]
    rw [if_neg (by simp [firsts])]
  rw [e1]
  simp only [Option.bind_some, hlo]
  rw [f96_l1_end (by simp [firsts]; decide)]
  simp

/-- Open, on a disk that is not down. -/
theorem f53_is (hD : DV σ d n0 A) (hd : downA A = false) (h1 : 64 ≤ most) (h2 : most ≤ 65536) : f53 (some d) nmL most σ = f96 (some σ.t128.length) (σ.add128 (some d, nmL, most, [], 0, ())) >>= fun r15 => if (r15.1 != 0) = true then some ((none, r15.1), r15.2) else some ((some σ.t128.length, 0), r15.2) := by
  obtain ⟨o, qs, hq⟩ := hD
  unfold f53
  simp only [Option.isNone_some, Bool.false_eq_true, if_false, f95_log, f31_eq hq, show A.2.2.2.1 = false from hd, Option.bind_eq_bind, Option.bind_some]
  rw [if_neg (by simp; omega)]

theorem LG.new (σ : St) (d : Nat) (most : Int) : LG (σ.add128 (some d, nmL, most, [], 0, ())) σ.t128.length d most [] [] 0 :=
  ⟨got128, List.nodup_nil, trivial⟩

theorem Ex.add128 (x : denFs fs128) : Ex σ (σ.add128 x) σ.t128.length := by
  refine ⟨fun i hi hl => ?_, by simp [St.add128], fun _ _ => rfl, Nat.le_refl _⟩
  simp only [St.add128]
  rw [List.getElem?_append_left hl]

theorem open_none (hD : DV σ d n0 A) (hA : OkA A) (hd : downA A = false) (hL : A.2.1 = []) (h1 : 64 ≤ most) (h2 : most ≤ 65536) :
    ∃ σ', f53 (some d) nmL most σ = some ((some σ.t128.length, 0), σ') ∧ Fw σ σ' d n0 ∧ Ex σ σ' σ.t128.length ∧ DV σ' d n0 A ∧ LG σ' σ.t128.length d most [] [] 0 := by
  refine ⟨σ.add128 (some d, nmL, most, [], 0, ()), ?_, Fw.of rfl rfl rfl, Ex.add128 _, hD.same rfl rfl, LG.new σ d most⟩
  rw [f53_is hD hd h1 h2, f96_none (LG.new σ d most) (hD.same rfl rfl) hA hL]
  rfl

theorem open_some {pre : List Sg} {g : Sg} {t : List UInt8} (hD : DV σ d n0 A) (hA : OkA A) (hd : downA A = false) (h0 : armA0 A = 0) (hg : Good (pre ++ [g])) (hlen : (pre ++ [g]).length ≤ 1000) (ht : Torn (sgN g) t) (hp : A.2.1.Perm (pre.map lgA ++ [tornF g t])) (h1 : 64 ≤ most) (h2 : most ≤ 65536) :
    ∃ σ' B js', f53 (some d) nmL most σ = some ((some σ.t128.length, 0), σ') ∧ Fw σ σ' d n0 ∧ Ex σ σ' σ.t128.length ∧ B.1 = A.1 ∧ armA0 B = 0 ∧ downA B = false ∧ DV σ' d n0 B ∧ OkA B ∧ LG σ' σ.t128.length d most js' (pre ++ [g]) (nextS (pre ++ [g])) ∧ DLs B.2.1 (pre ++ [g]) (lastLen (pre ++ [g])) := by
  obtain ⟨σ', B, js', e, f1, f1x, f2⟩ := f96_eq (LG.new σ d most) (hD.same rfl rfl) hA hd h0 hg hlen ht hp
  refine ⟨σ', B, js', ?_, (Fw.of rfl rfl rfl : Fw σ (σ.add128 (some d, nmL, most, [], 0, ())) d n0).trans f1, (Ex.add128 _).trans f1x, f2⟩
  rw [f53_is hD hd h1 h2, e]
  rfl
end
end Go.Proofs.Ytlfemhkabjafeaa.M

/- Plain law of the log, part 5: Append. -/
set_option linter.unusedVariables false
set_option linter.unusedSimpArgs false
namespace Go.Proofs.Ytlfemhkabjafeaa.M

/-- Up to which number all is safe, if so many records of the last segment are. -/
def safeOf (segs : List Sg) (s : Nat) : Nat := match segs.getLast? with
  | none => 0
  | some g => g.1 + s
theorem safeOf_app (pre : List Sg) (g : Sg) (s : Nat) : safeOf (pre ++ [g]) s = g.1 + s := by simp [safeOf]
theorem safeOf_all (segs : List Sg) : safeOf segs (lastLen segs) = nextS segs := by
  rcases List.eq_nil_or_concat segs with rfl | ⟨pre, g, rfl⟩
  · rfl
  · rw [List.concat_eq_append, safeOf_app, lastLen_app, nextS_app]; rfl

/-- One record more. -/
inductive More : List Sg → List UInt8 → List Sg → Prop
  | fresh {segs : List Sg} {x : List UInt8} : (segs = [] ∨ 0 < lastLen segs) → More segs x (segs ++ [(nextS segs, [x])])
  | same {pre : List Sg} {g : Sg} {x : List UInt8} : More (pre ++ [g]) x (pre ++ [(g.1, g.2 ++ [x])])

theorem More.next {segs segs' : List Sg} {x : List UInt8} (h : More segs x segs') : nextS segs' = nextS segs + 1 := by
  cases h with
  | fresh h => rw [nextS_app]; rfl
  | same => rw [nextS_app, nextS_app]; unfold sgN; simp only [List.length_append, List.length_cons, List.length_nil]; omega

theorem More.len {segs segs' : List Sg} {x : List UInt8} (h : More segs x segs') : segs'.length ≤ segs.length + 1 ∧ segs' ≠ [] := by
  cases h with
  | fresh h => simp
  | same => simp

theorem More.good {segs segs' : List Sg} {x : List UInt8} (h : More segs x segs') (hg : Good segs) (hx : OkR x) (hn : nextS segs + 1 ≤ 1000000) : Good segs' := by
  cases h with
  | @fresh segs x h =>
    refine ⟨?_, ?_, ?_⟩
    · rcases List.eq_nil_or_concat segs with rfl | ⟨pre, g, rfl⟩
      · exact ⟨by simp, by simp, trivial⟩
      · rw [List.concat_eq_append] at *
        refine hg.chain.snoc (by rw [nextS_app]) ?_
        rcases h with h | h
        · simp at h
        · rwa [lastLen_app] at h
    · intro a ha
      rcases List.mem_append.1 ha with ha | ha
      · exact hg.recs a ha
      · simp only [List.mem_cons, List.not_mem_nil, or_false] at ha
        subst ha
        intro y hy
        simp only [List.mem_cons, List.not_mem_nil, or_false] at hy
        rw [hy]; exact hx
    · intro a ha
      rcases List.mem_append.1 ha with ha | ha
      · exact hg.top a ha
      · simp only [List.mem_cons, List.not_mem_nil, or_false] at ha
        subst ha
        unfold sgN
        simp only [List.length_cons, List.length_nil]; omega
  | @same pre g x =>
    have hgm : g ∈ pre ++ [g] := by simp
    refine ⟨hg.chain.last rfl, ?_, ?_⟩
    · intro a ha
      rcases List.mem_append.1 ha with ha | ha
      · exact hg.recs a (List.mem_append.2 (.inl ha))
      · simp only [List.mem_cons, List.not_mem_nil, or_false] at ha
        subst ha
        intro y hy
        rcases List.mem_append.1 hy with hy | hy
        · exact hg.recs g hgm y hy
        · simp only [List.mem_cons, List.not_mem_nil, or_false] at hy
          rw [hy]; exact hx
    · intro a ha
      rcases List.mem_append.1 ha with ha | ha
      · exact hg.top a (List.mem_append.2 (.inl ha))
      · simp only [List.mem_cons, List.not_mem_nil, or_false] at ha
        subst ha
        rw [nextS_app] at hn
        unfold sgN at *
        simp only [List.length_append, List.length_cons, List.length_nil]; omega

section
variable {σ : St} {l d n0 : Nat} {most : Int} {js : List Nat} {segs : List Sg} {safe s : Nat} {A : AD}

/-- A log at any time. -/
structure WS (σ : St) (l d n0 : Nat) (most : Int) (A : AD) (js : List Nat) (segs : List Sg) (safe s : Nat) : Prop where
  lg : LG σ l d most js segs safe
  dv : DV σ d n0 A
  ok : OkA A
  dl : DLs A.2.1 segs s
  good : Good segs
  len : segs.length ≤ 900
  sf : safe = safeOf segs s

theorem fileL_new (hg : Good segs) (hne : segs = [] ∨ 0 < lastLen segs) : ∀ g ∈ segs, g.1 ≠ nextS segs := by
  rcases List.eq_nil_or_concat segs with rfl | ⟨pre, g, rfl⟩
  · simp
  · rw [List.concat_eq_append] at *
    rw [nextS_app]
    have hpos : 0 < g.2.length := by
      rcases hne with h | h
      · simp at h
      · rwa [lastLen_app] at h
    intro a ha
    rcases List.mem_append.1 ha with ha | ha
    · have := (List.pairwise_append.1 hg.chain.rise).2.2 a ha g (by simp)
      unfold sgN; omega
    · simp only [List.mem_cons, List.not_mem_nil, or_false] at ha
      subst ha
      unfold sgN; omega

theorem DLs.all {L : List FR} (h : DLs L segs (lastLen segs)) : L.Perm (segs.map lgA) := by
  rcases List.eq_nil_or_concat segs with rfl | ⟨pre, g, rfl⟩
  · rw [(h.inv0).1]; exact List.Perm.refl _
  · rw [List.concat_eq_append] at *
    have := h.inv.1
    rw [lastLen_app, lgF_all] at this
    rw [List.map_append]; exact this

theorem set_new {L : List FR} {f : FR} (hL : L.Perm (segs.map lgA)) (hf : ∀ g ∈ segs, fileL g.1 ≠ f.1) : findL f.1 L = none ∧ (setL f false L).Perm (segs.map lgA ++ [f]) := by
  have hno : findL f.1 L = none := findL_no (fun a ha => by
    obtain ⟨g, hg, rfl⟩ := List.mem_map.1 (hL.mem_iff.1 ha)
    exact hf g hg)
  refine ⟨hno, ?_⟩
  refine (setL_perm f L).trans ?_
  rw [dropL_none hno]
  exact (List.Perm.cons f hL).trans (List.perm_append_comm (l₁ := [f]))

/-- At most so many bytes. -/
def szR (l : List (List UInt8)) : Nat := (l.map (fun x => 24 + x.length)).sum
def szS (segs : List Sg) : Nat := (segs.map (fun g => szR g.2)).sum

theorem recB_le {n : Nat} {x : List UInt8} (hn : OkN n) (hx : OkR x) : (recB n x).length ≤ 24 + x.length := by
  have h0 := numV_len (n := n) (by unfold OkN at hn; omega)
  have h1 := recT_len hn hx
  have h2 := numV_len (n := (recT n x).length) (by omega)
  have h3 : (recT n x).length = (numV n).length + x.length + 4 := by unfold recT; rw [sealS_len, List.length_append]
  unfold recB
  rw [List.length_append]; omega

theorem segB_le : ∀ (n : Nat) (l : List (List UInt8)), OkN (n + l.length) → (∀ x ∈ l, OkR x) → (segB n l).length ≤ szR l
  | n, [], _, _ => by simp [segB]
  | n, x :: r, hn, hx => by
    have hn' : n + (r.length + 1) < 4611686018427387904 := hn
    have h1 := recB_le (n := n) (x := x) (by unfold OkN; omega) (hx x List.mem_cons_self)
    have h2 := segB_le (n + 1) r (by unfold OkN; omega) (fun y hy => hx y (List.mem_cons_of_mem _ hy))
    unfold szR at h2 ⊢
    simp only [segB, List.length_append, List.map_cons, List.sum_cons]
    omega

theorem DLs.used {L : List FR} (h : DLs L segs s) (hg : Good segs) : usedL L ≤ szS segs := by
  have each : ∀ g ∈ segs, (sgB g).length ≤ szR g.2 := by
    intro g hgm
    have := hg.top g hgm
    unfold sgN at this
    exact segB_le g.1 g.2 (by unfold OkN; omega) (hg.recs g hgm)
  have all : ∀ r : List Sg, (∀ g ∈ r, g ∈ segs) → usedL (r.map lgA) ≤ szS r := by
    intro r
    induction r with
    | nil => intro _; simp [usedL]
    | cons g r ih =>
      intro hr
      have h1 := each g (hr g List.mem_cons_self)
      have h2 := ih (fun x hx => hr x (List.mem_cons_of_mem _ hx))
      unfold szS at h2 ⊢
      simp only [List.map_cons, usedL, List.sum_cons, fsize, lgA, List.length_nil]
      omega
  rcases List.eq_nil_or_concat segs with rfl | ⟨pre, g, rfl⟩
  · rw [(h.inv0).1]; simp [usedL]
  · rw [List.concat_eq_append] at *
    obtain ⟨hp, hs⟩ := h.inv
    rw [usedL_perm hp, usedL_append]
    have h1 := all pre (fun x hx => List.mem_append.2 (.inl hx))
    have h2 := each g (by simp)
    have h3 : usedL [lgF g s] = (sgB g).length := by
      have := congrArg List.length (lgF_bytes g hs)
      rw [List.length_append] at this
      simp only [usedL, fsize]; omega
    unfold szS at h1 ⊢
    rw [List.map_append, List.sum_append, h3]
    simp only [List.map_cons, List.map_nil, List.sum_cons, List.sum_nil]
    omega

/-- There's no room. -/
def Over (A : AD) (segs : List Sg) (x : List UInt8) : Prop := A.1 < ((24 + x.length + szS segs : Nat) : Int) ∨ 128 ≤ segs.length ∨ 65536 < 24 + x.length + szS segs

theorem fresh_step (h : LG σ l d most js segs safe) (hD : DV σ d n0 A) (hA : OkA A) (hg : Good segs) (hd : downA A = false) (hL : DLs A.2.1 segs (lastLen segs)) {x : List UInt8} (hx : OkR x) (hn : nextS segs + 1 ≤ 1000000) (hne : segs = [] ∨ 0 < lastLen segs) :
    ∃ e σ2 B, f24 (some d) (fileL (nextS segs)) (recB (nextS segs) x) (σ.add130 ((nextS segs : Int), [], 0, ())) = some (e, σ2) ∧ Fw σ σ2 d n0 ∧ B.1 = A.1 ∧ (armA0 A = 0 → armA0 B = 0) ∧ DV σ2 d n0 B ∧ OkA B ∧ σ2.t130[σ.t130.length]? = some ((nextS segs : Int), [], 0, ()) ∧ LG σ2 l d most js segs safe ∧
      ((e = 0 ∧ downA B = false ∧ DLs B.2.1 (segs ++ [(nextS segs, [x])]) 0 ∧
          LG ((σ2.set130 σ.t130.length ((nextS segs : Int), [x], ((recB (nextS segs) x).length : Int), ())).set128 l (some d, nmL, most, js.map some ++ [some σ.t130.length], (safe : Int), ())) l d most (js ++ [σ.t130.length]) (segs ++ [(nextS segs, [x])]) safe) ∨
       (e = 10 ∧ downA B = false ∧ DLs B.2.1 segs (lastLen segs) ∧ Over A segs x) ∨
       (e = 11 ∧ downA B = true ∧ armA0 A ≠ 0 ∧ DLs B.2.1 (segs ++ [(nextS segs, [x])]) 0)) := by
  have hle := nextS_le hg
  have hnm := fileL_len (n := nextS segs) (by omega)
  have h1 := h.add ((nextS segs : Int), [], 0, ())
  obtain ⟨σ2, g1, g2, g3⟩ := f24_eq (hD.same (σ' := σ.add130 ((nextS segs : Int), [], 0, ())) rfl rfl) hA (fileL (nextS segs)) (recB (nextS segs) x) (by omega)
  have h2 := h1.same g3.oth
  have e130 : σ2.t130 = (σ.add130 ((nextS segs : Int), [], 0, ())).t130 := congrArg (fun x => x.2.2) g3.oth
  have hnew : σ2.t130[σ.t130.length]? = some ((nextS segs : Int), [], 0, ()) := by rw [e130]; exact got130
  have hfw : Fw σ σ2 d n0 := (Fw.of rfl rfl rfl : Fw σ (σ.add130 ((nextS segs : Int), [], 0, ())) d n0).trans g3.fw
  have hall := hL.all
  have hap := fileL_new hg hne
  obtain ⟨s1, s2⟩ := set_new (f := lgF (nextS segs, [x]) 0) hall (fun g hgm e => hap g hgm (fileL_inj e))
  have hfl : (lgF (nextS segs, [x]) 0).1 = fileL (nextS segs) := rfl
  rw [hfl] at s1
  have hmore : moreF (emptyF (fileL (nextS segs))) (recB (nextS segs) x) = lgF (nextS segs, [x]) 0 := by
    simp [moreF, emptyF, lgF, segB]
  by_cases hc : full A (fileL (nextS segs)) (recB (nextS segs) x)
  · have e0 : appendA A (fileL (nextS segs)) (recB (nextS segs) x) = (10, A) := by
      unfold appendA
      rw [if_neg (by rw [show A.2.2.2.1 = false from hd]; decide), if_neg (by rw [okName_fileL (by omega)]; decide), if_pos hc]
    rw [e0] at g1 g2
    refine ⟨10, σ2, A, g1, hfw, rfl, id, g2, hA, hnew, h2, .inr (.inl ⟨rfl, hd, hL, ?_⟩)⟩
    have hu := hL.used hg
    have hb := recB_le (n := nextS segs) (x := x) (by unfold OkN; omega) hx
    have hlen : A.2.1.length = segs.length := by rw [hall.length_eq]; simp
    unfold Over
    unfold full at hc
    rw [s1] at hc
    simp only [Option.getD_none] at hc
    have hz : fsize (emptyF (fileL (nextS segs))) = 0 := rfl
    rw [hz] at hc
    rcases hc with ⟨_, hc⟩ | hc | hc
    · right; left; omega
    · right; right; omega
    · left; omega
  · have hB := hA.appended hc
    rw [s1] at hB
    have e0 : appendA A (fileL (nextS segs)) (recB (nextS segs) x) = writeA (putA A (setL (lgF (nextS segs, [x]) 0) false A.2.1)) id := by
      unfold appendA
      rw [if_neg (by rw [show A.2.2.2.1 = false from hd]; decide), if_neg (by rw [okName_fileL (by omega)]; decide), if_neg hc, s1]
      simp only [Option.getD_none, hmore]
    simp only [Option.getD_none, hmore] at hB
    have hdl : DLs (setL (lgF (nextS segs, [x]) 0) false A.2.1) (segs ++ [(nextS segs, [x])]) 0 := .some s2 (Nat.zero_le _)
    obtain ⟨B, b1, b2, b3, b4, ⟨b5, b6⟩ | ⟨b5, b6, b7⟩⟩ := write_cases (A := putA A (setL (lgF (nextS segs, [x]) 0) false A.2.1)) hB hd id
    · rw [e0, b6] at g1 g2
      refine ⟨0, σ2, B, g1, hfw, b1, b4, g2, b3, hnew, h2, .inl ⟨rfl, b5, by rw [b2]; exact hdl, ?_⟩⟩
      have hnj : σ.t130.length ∉ js := fun hm => by have := h.lt _ hm; omega
      have h3 : LG (σ2.set130 σ.t130.length ((nextS segs : Int), [x], ((recB (nextS segs) x).length : Int), ())) l d most js segs safe := by
        refine ⟨h2.lo, h2.nd, h2.lie.imp2 (fun j hj g hgj => ?_)⟩
        show (σ2.t130.set σ.t130.length _)[j]? = _
        rw [List.getElem?_set_ne (fun e : σ.t130.length = j => hnj (by rw [e]; exact hj))]; exact hgj
      have := h3.link (j := σ.t130.length) (g := (nextS segs, [x])) (by
        have e : sgB (nextS segs, [x]) = recB (nextS segs) x := by simp [sgB, segB]
        show _ = some (((nextS segs : Nat) : Int), [x], ((sgB (nextS segs, [x])).length : Int), ())
        rw [e]; exact set130_get hnew) hnj
      exact this
    · rw [e0, b7] at g1 g2
      exact ⟨11, σ2, B, g1, hfw, b1, b4, g2, b3, hnew, h2, .inr (.inr ⟨rfl, b5, b6, by rw [b2]; exact hdl⟩)⟩

theorem lgF_more {g : Sg} {x : List UInt8} (hs : s ≤ g.2.length) : moreF (lgF g s) (recB (sgN g) x) = lgF (g.1, g.2 ++ [x]) s := by
  unfold moreF lgF
  simp only []
  rw [List.take_append_of_le_length hs, List.drop_append_of_le_length hs, segB_app]
  have : g.1 + s + (g.2.drop s).length = sgN g := by rw [List.length_drop]; unfold sgN; omega
  rw [this]
  simp [segB]

theorem same_step {pre : List Sg} {g : Sg} (hD : DV σ d n0 A) (hA : OkA A) (hg : Good (pre ++ [g])) (hd : downA A = false) (hL : DLs A.2.1 (pre ++ [g]) s) {x : List UInt8} (hx : OkR x) :
    ∃ e σ2 B, f24 (some d) (fileL g.1) (recB (sgN g) x) σ = some (e, σ2) ∧ Fr σ σ2 d n0 ∧ B.1 = A.1 ∧ (armA0 A = 0 → armA0 B = 0) ∧ DV σ2 d n0 B ∧ OkA B ∧
      ((e = 0 ∧ downA B = false ∧ DLs B.2.1 (pre ++ [(g.1, g.2 ++ [x])]) s) ∨ (e = 10 ∧ downA B = false ∧ DLs B.2.1 (pre ++ [g]) s ∧ Over A (pre ++ [g]) x) ∨ (e = 11 ∧ downA B = true ∧ armA0 A ≠ 0 ∧ DLs B.2.1 (pre ++ [(g.1, g.2 ++ [x])]) s)) := by
  have htop := hg.top12 (g := g) (by simp)
  have hnm := fileL_len htop
  obtain ⟨hp, hs⟩ := hL.inv
  obtain ⟨σ2, g1, g2, g3⟩ := f24_eq hD hA (fileL g.1) (recB (sgN g) x) (by omega)
  have hfd := last_find hp rfl hA.sorted
  by_cases hc : full A (fileL g.1) (recB (sgN g) x)
  · have e0 : appendA A (fileL g.1) (recB (sgN g) x) = (10, A) := by
      unfold appendA
      rw [if_neg (by rw [show A.2.2.2.1 = false from hd]; decide), if_neg (by rw [okName_fileL htop]; decide), if_pos hc]
    rw [e0] at g1 g2
    refine ⟨10, σ2, A, g1, g3, rfl, id, g2, hA, .inr (.inl ⟨rfl, hd, hL, ?_⟩)⟩
    have hu := hL.used hg
    have htg := hg.top g (by simp)
    have hb := recB_le (n := sgN g) (x := x) (by unfold OkN; omega) hx
    have hfs : fsize (lgF g s) ≤ usedL A.2.1 := by
      rw [usedL_perm hp, usedL_append]
      simp only [usedL]; omega
    unfold Over
    unfold full at hc
    rw [hfd] at hc
    simp only [Option.getD_some] at hc
    rcases hc with ⟨hc, _⟩ | hc | hc
    · simp at hc
    · right; right; omega
    · left; omega
  · have hB := hA.appended hc
    rw [hfd] at hB
    simp only [Option.getD_some, lgF_more hs] at hB
    have e0 : appendA A (fileL g.1) (recB (sgN g) x) = writeA (putA A (setL (lgF (g.1, g.2 ++ [x]) s) false A.2.1)) id := by
      unfold appendA
      rw [if_neg (by rw [show A.2.2.2.1 = false from hd]; decide), if_neg (by rw [okName_fileL htop]; decide), if_neg hc, hfd]
      simp only [Option.getD_some, lgF_more hs]
    have hdl : DLs (setL (lgF (g.1, g.2 ++ [x]) s) false A.2.1) (pre ++ [(g.1, g.2 ++ [x])]) s := by
      refine .some (last_set hp rfl rfl hg.chain) ?_
      rw [List.length_append]; omega
    obtain ⟨B, b1, b2, b3, b4, ⟨b5, b6⟩ | ⟨b5, b6, b7⟩⟩ := write_cases (A := putA A (setL (lgF (g.1, g.2 ++ [x]) s) false A.2.1)) hB hd id
    · rw [e0, b6] at g1 g2
      exact ⟨0, σ2, B, g1, g3, b1, b4, g2, b3, .inl ⟨rfl, b5, by rw [b2]; exact hdl⟩⟩
    · rw [e0, b7] at g1 g2
      exact ⟨11, σ2, B, g1, g3, b1, b4, g2, b3, .inr (.inr ⟨rfl, b5, b6, by rw [b2]; exact hdl⟩)⟩

/-- A record more in the last segment. -/
theorem LG.more {pre : List Sg} {g : Sg} {x : List UInt8} {jp : List Nat} {j : Nat} (h : LG σ l d most (jp ++ [j]) (pre ++ [g]) safe) :
    LG (σ.set130 j ((g.1 : Int), g.2 ++ [x], ((sgB (g.1, g.2 ++ [x])).length : Int), ())) l d most (jp ++ [j]) (pre ++ [(g.1, g.2 ++ [x])]) safe := by
  obtain ⟨jp', j', e, h1, h2⟩ := h.split
  obtain ⟨rfl, ej⟩ := List.append_inj' e rfl
  simp only [List.cons.injEq, and_true] at ej
  subst ej
  have hnj : j ∉ jp := fun hm => (List.nodup_append.1 h.nd).2.2 j hm j (by simp) rfl
  refine ⟨h.lo, h.nd, All2.app (h1.imp2 (fun k hk a ha => ?_)) (show All2 _ [j] [_] from ⟨?_, trivial⟩)⟩
  · show (σ.t130.set j _)[k]? = _
    rw [List.getElem?_set_ne (fun e : j = k => hnj (by rw [e]; exact hk))]; exact ha
  · exact set130_get h2

theorem set130_set {j : Nat} {x y : denFs fs130} : (σ.set130 j x).set130 j y = σ.set130 j y := by unfold St.set130; simp

/-- What comes of an Append. -/
structure AppOut (σ : St) (l d n0 : Nat) (most : Int) (A : AD) (js : List Nat) (segs : List Sg) (safe s : Nat) (x : List UInt8) (v e : Int) (σ' : St) (B : AD) (js' : List Nat) (segs' : List Sg) (safe' s' : Nat) : Prop where
  run : f59 (some l) x σ = some ((v, e), σ')
  fw : Fw σ σ' d n0
  room : B.1 = A.1
  arm : armA0 A = 0 → armA0 B = 0
  out : (e = 0 ∧ v = (nextS segs : Int) ∧ downA B = false ∧ More segs x segs' ∧ safe' ≤ nextS segs ∧ WS σ' l d n0 most B js' segs' safe' s') ∨
        (e = 10 ∧ downA B = false ∧ segs' = segs ∧ Over A segs x ∧ WS σ' l d n0 most B js' segs' safe' s') ∨
        (e = 11 ∧ downA B = true ∧ armA0 A ≠ 0 ∧ (segs' = segs ∨ More segs x segs') ∧ f60 (some l) σ' = some (safe' : Int) ∧ safe' ≤ safeOf segs' s' ∧ DV σ' d n0 B ∧ OkA B ∧ DLs B.2.1 segs' s')
  up : safe ≤ safe'

theorem safe_le_next (h : WS σ l d n0 most A js segs safe s) : safe ≤ nextS segs := by
  rw [h.sf]
  have hd := h.dl
  rcases List.eq_nil_or_concat segs with rfl | ⟨pre, g, rfl⟩
  · exact Nat.le_refl _
  · rw [List.concat_eq_append] at *
    rw [safeOf_app, nextS_app]
    have := hd.inv.2
    unfold sgN; omega

theorem LG.put_same (h : LG σ l d most js segs safe) : σ.t128[l]? = some (some d, nmL, most, js.map some, (safe : Int), ()) := h.lo

theorem Over_room {B : AD} {x : List UInt8} (e : B.1 = A.1) (h : Over B segs x) : Over A segs x := by
  unfold Over at *
  rw [e] at h
  exact h

theorem f59_fresh (h : WS σ l d n0 most A js segs safe s) (hd : downA A = false) {x : List UInt8} (hx : OkR x) (hn : nextS segs + 1 ≤ 1000000) (hln : segs.length ≤ 800) (hne : segs = [] ∨ 0 < lastLen segs)
    (hfr : ∀ (σ1 : St) (B1 : AD), LG σ1 l d most js segs (nextS segs) → f61 (some l) σ = some (0, σ1) → ∀ (e : Int) (σ2 : St), f24 (some d) (fileL (nextS segs)) (recB (nextS segs) x) (σ1.add130 ((nextS segs : Int), [], 0, ())) = some (e, σ2) → σ2.t130[σ1.t130.length]? = some ((nextS segs : Int), [], 0, ()) → LG σ2 l d most js segs (nextS segs) →
      f59 (some l) x σ = some (if e = 0 then (((nextS segs : Int), 0), (σ2.set130 σ1.t130.length ((nextS segs : Int), [x], ((recB (nextS segs) x).length : Int), ())).set128 l (some d, nmL, most, js.map some ++ [some σ1.t130.length], (nextS segs : Int), ())) else ((0, e), σ2)))
    (hfail : ∀ (σ1 : St), f61 (some l) σ = some (11, σ1) → f59 (some l) x σ = some ((0, 11), σ1)) :
    ∃ v e σ' B js' segs' safe' s', AppOut σ l d n0 most A js segs safe s x v e σ' B js' segs' safe' s' := by
  have hsn := safe_le_next h
  obtain ⟨σ1, B1, e1, g1, r1, _, a1, v1, k1, k2, ⟨rfl, d1, l1, m1⟩ | ⟨rfl, d1, w1, l1, m1⟩⟩ := f61_eq h.lg h.dv h.ok h.good (by have := h.len; omega) h.dl hd
  · obtain ⟨e2, σ2, B2, g2, r2, a2, v2, k3, k4, n2, l2, o⟩ := fresh_step l1 k1 k2 h.good d1 m1 hx hn hne
    have hrun := hfr σ1 B1 l1 g1 e2 σ2 g2 n2 l2
    have hmore : More segs x (segs ++ [(nextS segs, [x])]) := .fresh hne
    rcases o with ⟨rfl, o1, o2, o3⟩ | ⟨rfl, o1, o2, o2x⟩ | ⟨rfl, o1, o2, o3⟩
    · rw [if_pos rfl] at hrun
      refine ⟨_, _, _, B2, _, _, nextS segs, 0, hrun, (r1.trans r2).trans (Fw.of rfl rfl rfl), a2.trans a1, fun hh => v2 (v1 hh), .inl ⟨rfl, rfl, o1, hmore, Nat.le_refl _, o3, k3.same rfl rfl, k4, o2, hmore.good h.good hx hn, ?_, ?_⟩, hsn⟩
      · rw [List.length_append]; simp only [List.length_cons, List.length_nil]; omega
      · rw [safeOf_app]; rfl
    · rw [if_neg (by decide)] at hrun
      exact ⟨_, _, _, B2, _, _, nextS segs, lastLen segs, hrun, r1.trans r2, a2.trans a1, fun hh => v2 (v1 hh), .inr (.inl ⟨rfl, o1, rfl, Over_room (segs := segs) a1 o2x, l2, k3, k4, o2, h.good, h.len, (safeOf_all segs).symm⟩), hsn⟩
    · rw [if_neg (by decide)] at hrun
      exact ⟨_, _, _, B2, js, _, nextS segs, 0, hrun, r1.trans r2, a2.trans a1, fun hh => v2 (v1 hh), .inr (.inr ⟨rfl, o1, fun hh => o2 (v1 hh), .inr hmore, f60_eq l2, by rw [safeOf_app]; exact Nat.le_refl _, k3, k4, o3⟩), hsn⟩
  · have hrun := hfail σ1 g1
    exact ⟨_, _, σ1, B1, js, segs, safe, s, hrun, r1, a1, v1, .inr (.inr ⟨rfl, d1, w1, .inl rfl, f60_eq l1, by rw [← h.sf]; exact Nat.le_refl _, k1, k2, m1⟩), Nat.le_refl _⟩
end
end Go.Proofs.Ytlfemhkabjafeaa.M

/- Plain law of the log, part 6: Append, wholly; Trim and Read; a crash. -/
set_option linter.unusedVariables false
set_option linter.unusedSimpArgs false
namespace Go.Proofs.Ytlfemhkabjafeaa.M

section
variable {σ : St} {l d n0 : Nat} {most : Int} {js : List Nat} {segs : List Sg} {safe s : Nat} {A : AD}

theorem f59_none (h : WS σ l d n0 most A js [] safe s) (hd : downA A = false) {x : List UInt8} (hx : OkR x) : ∃ v e σ' B js' segs' safe' s', AppOut σ l d n0 most A js [] safe s x v e σ' B js' segs' safe' s' := by
  have hx' : x.length ≤ 1024 := hx
  have hn0 : nextS [] = 0 := rfl
  have hj : js = [] := by
    have := All2.len h.lg.lie
    exact List.eq_nil_of_length_eq_zero (by simpa using this)
  refine f59_fresh h hd hx (by decide) (by simp) (.inl rfl) ?_ ?_
  · intro σ1 B1 l1 g1 e σ2 g2 n2 l2
    have h1 := l1.add ((nextS [] : Int), [], 0, ())
    have hlo1 := h1.lo
    have hlo2 := l2.lo
    have e98 := f98_eq (g := 0) h1 (j := σ1.t130.length) got130 (n := nextS []) rfl (by decide)
    unfold f59
    simp only [Option.isNone_some, Bool.false_eq_true, if_false, f55_eq h.lg h.good (by simp), f97_none h.lg, Option.bind_eq_bind, Option.bind_some]
    rw [if_neg (by simp; omega)]
    simp only [Option.isNone_none, if_true]
    rw [g1]
    simp only [Option.bind_some]
    rw [if_neg (by simp), f99_eq (by decide) hx]
    simp only [Option.bind_some, hlo1, e98]
    rw [g2]
    simp only [Option.bind_some]
    by_cases c : e = 0
    · subst c
      rw [if_neg (by simp), if_pos rfl, n2]
      simp only [Option.bind_some]
      rw [if_pos (by decide), set130_set]
      have hlo3 : (σ2.set130 σ1.t130.length ((nextS [] : Int), [] ++ [x], IntKind.wrap .i64 (0 + ((recB (nextS []) x).length : Int)), ())).t128[l]? = some (some d, nmL, most, js.map some, ((nextS [] : Nat) : Int), ()) := hlo2
      rw [hlo3]
      simp only [Option.bind_some]
      have hrl := recB_len (n := nextS []) (by decide) hx
      rw [if_pos (by rw [hj]; decide)]
      have hw : IntKind.wrap .i64 (0 + ((recB (nextS []) x).length : Int)) = ((recB (nextS []) x).length : Int) := by rw [wrap_id (by omega) (by omega)]; omega
      rw [hw]
      rfl
    · rw [if_pos (by simpa using c), if_neg c]
  · intro σ1 g1
    unfold f59
    simp only [Option.isNone_some, Bool.false_eq_true, if_false, f55_eq h.lg h.good (by simp), f97_none h.lg, Option.bind_eq_bind, Option.bind_some]
    rw [if_neg (by simp; omega)]
    simp only [Option.isNone_none, if_true]
    rw [g1]
    simp only [Option.bind_some]
    rw [if_pos (by simp)]

theorem f59_some {pre : List Sg} {g : Sg} (h : WS σ l d n0 most A js (pre ++ [g]) safe s) (hd : downA A = false) {x : List UInt8} (hx : OkR x) (hn : nextS (pre ++ [g]) + 1 ≤ 1000000) (hln : (pre ++ [g]).length ≤ 800) (hmo : 1 ≤ most) :
    ∃ v e σ' B js' segs' safe' s', AppOut σ l d n0 most A js (pre ++ [g]) safe s x v e σ' B js' segs' safe' s' := by
  have hx' : x.length ≤ 1024 := hx
  obtain ⟨jp, j, ej, q1, q2⟩ := h.lg.split
  have hjl : jp.length = pre.length := All2.len q1
  have hlo := h.lg.lo
  have htop := h.good.top12 (g := g) (by simp)
  have htg := h.good.top g (by simp)
  have hlB := h.good.lenB (g := g) (by simp)
  have hrl := recB_len (n := nextS (pre ++ [g])) (by unfold OkN; omega) hx
  have e97 := f97_last h.lg (by simp at hln; omega) ej
  have e55 := f55_eq h.lg h.good (by omega)
  have hml : (js.map some).length = pre.length + 1 := by rw [ej]; simp [hjl]
  have hml2 : (js.map some).length ≤ 800 := by rw [hml]; simp at hln; omega
  by_cases hfresh : most ≤ ((sgB g).length : Int)
  · have hpos : 0 < g.2.length := by
      rcases Nat.eq_zero_or_pos g.2.length with h0 | h0
      · have : g.2 = [] := List.eq_nil_of_length_eq_zero h0
        unfold sgB at hfresh
        rw [this] at hfresh
        simp [segB] at hfresh
        omega
      · exact h0
    refine f59_fresh h hd hx hn hln (.inr (by rw [lastLen_app]; exact hpos)) ?_ ?_
    · intro σ1 B1 l1 g1 e σ2 g2 n2 l2
      have h1 := l1.add ((nextS (pre ++ [g]) : Int), [], 0, ())
      have hlo1 := h1.lo
      have hlo2 := l2.lo
      have e98 := f98_eq (g := 0) h1 (j := σ1.t130.length) got130 (n := nextS (pre ++ [g])) rfl (by omega)
      unfold f59
      simp only [Option.isNone_some, Bool.false_eq_true, if_false, e55, e97, q2, hlo, Option.bind_eq_bind, Option.bind_some]
      rw [if_neg (by simp; omega), if_pos (by simpa using hfresh), g1]
      simp only [Option.bind_some]
      rw [if_neg (by simp), f99_eq (by unfold OkN; omega) hx]
      simp only [Option.bind_some, hlo1, e98]
      rw [g2]
      simp only [Option.bind_some]
      by_cases c : e = 0
      · subst c
        rw [if_neg (by simp), if_pos rfl, n2]
        simp only [Option.bind_some]
        rw [if_pos (by simp), if_pos (by simpa using hfresh), set130_set]
        have hlo3 : (σ2.set130 σ1.t130.length ((nextS (pre ++ [g]) : Int), [] ++ [x], IntKind.wrap .i64 (0 + ((recB (nextS (pre ++ [g])) x).length : Int)), ())).t128[l]? = some (some d, nmL, most, js.map some, ((nextS (pre ++ [g]) : Nat) : Int), ()) := hlo2
        rw [hlo3]
        simp only [Option.bind_some]
        rw [if_pos (by omega)]
        have hw : IntKind.wrap .i64 (0 + ((recB (nextS (pre ++ [g])) x).length : Int)) = ((recB (nextS (pre ++ [g])) x).length : Int) := by rw [wrap_id (by omega) (by omega)]; omega
        rw [hw]
        rfl
      · rw [if_pos (by simpa using c), if_neg c]
    · intro σ1 g1
      unfold f59
      simp only [Option.isNone_some, Bool.false_eq_true, if_false, e55, e97, q2, hlo, Option.bind_eq_bind, Option.bind_some]
      rw [if_neg (by simp; omega), if_pos (by simpa using hfresh), g1]
      simp only [Option.bind_some]
      rw [if_pos (by simp)]
  · obtain ⟨e, σ2, B, g2, r2, a2, v2, k3, k4, o⟩ := same_step h.dv h.ok h.good hd h.dl hx
    have hnx : nextS (pre ++ [g]) = sgN g := nextS_app pre g
    have l2 := h.lg.same r2.oth
    have hlo2 := l2.lo
    have q2' : σ2.t130[j]? = some ((g.1 : Int), g.2, ((sgB g).length : Int), ()) := by
      obtain ⟨jp', j', e', q3, q4⟩ := l2.split
      rw [ej] at e'
      obtain ⟨_, e''⟩ := List.append_inj' e' rfl
      simp only [List.cons.injEq, and_true] at e''
      rw [e'']; exact q4
    have hrun : f59 (some l) x σ = some (if e = 0 then (((nextS (pre ++ [g]) : Int), 0), σ2.set130 j ((g.1 : Int), g.2 ++ [x], ((sgB (g.1, g.2 ++ [x])).length : Int), ())) else ((0, e), σ2)) := by
      unfold f59
      simp only [Option.isNone_some, Bool.false_eq_true, if_false, e55, e97, q2, hlo, Option.bind_eq_bind, Option.bind_some]
      rw [if_neg (by simp; omega), if_neg (by simpa using hfresh), f99_eq (by unfold OkN; omega) hx, f98_lie h.lg q2 htop]
      simp only [Option.bind_some]
      rw [hnx, g2]
      simp only [Option.bind_some]
      by_cases c : e = 0
      · subst c
        rw [if_neg (by simp), if_pos rfl, q2']
        simp only [Option.bind_some]
        unfold sgN at htg
        rw [if_pos (by omega), if_neg (by simpa using hfresh), set130_set]
        simp only [Option.bind_some]
        have hsz : ((sgB (g.1, g.2 ++ [x])).length : Int) = ((sgB g).length : Int) + ((recB (sgN g) x).length : Int) := by
          unfold sgB
          rw [segB_app, List.length_append]
          simp only [segB, List.append_nil]
          unfold sgN
          push_cast; rfl
        rw [hnx] at hrl
        have hw : IntKind.wrap .i64 (((sgB g).length : Int) + ((recB (sgN g) x).length : Int)) = ((sgB (g.1, g.2 ++ [x])).length : Int) := by rw [hsz, wrap_id (by omega) (by omega)]
        rw [hw]
      · rw [if_pos (by simpa using c), if_neg c]
    have hmore : More (pre ++ [g]) x (pre ++ [(g.1, g.2 ++ [x])]) := .same
    rcases o with ⟨rfl, o1, o2⟩ | ⟨rfl, o1, o2, o2x⟩ | ⟨rfl, o1, o2, o3⟩
    · rw [if_pos rfl] at hrun
      refine ⟨_, _, _, B, js, _, safe, s, hrun, r2.fw.trans (Fw.of rfl rfl rfl), a2, v2, .inl ⟨rfl, rfl, o1, hmore, safe_le_next h, ?_, k3.same rfl rfl, k4, o2, hmore.good h.good hx hn, by have := hmore.len.1; omega, ?_⟩, Nat.le_refl _⟩
      · rw [ej] at l2 ⊢
        exact l2.more
      · rw [h.sf, safeOf_app, safeOf_app]
    · rw [if_neg (by decide)] at hrun
      exact ⟨_, _, _, B, js, _, safe, s, hrun, r2.fw, a2, v2, .inr (.inl ⟨rfl, o1, rfl, o2x, l2, k3, k4, o2, h.good, h.len, h.sf⟩), Nat.le_refl _⟩
    · rw [if_neg (by decide)] at hrun
      exact ⟨_, _, _, B, js, _, safe, s, hrun, r2.fw, a2, v2, .inr (.inr ⟨rfl, o1, o2, .inr hmore, f60_eq l2, by rw [h.sf, safeOf_app, safeOf_app]; exact Nat.le_refl _, k3, k4, o3⟩), Nat.le_refl _⟩

theorem f59_eq (h : WS σ l d n0 most A js segs safe s) (hd : downA A = false) {x : List UInt8} (hx : OkR x) (hn : nextS segs + 1 ≤ 1000000) (hln : segs.length ≤ 800) (hmo : 1 ≤ most) :
    ∃ v e σ' B js' segs' safe' s', AppOut σ l d n0 most A js segs safe s x v e σ' B js' segs' safe' s' := by
  rcases List.eq_nil_or_concat segs with rfl | ⟨pre, g, rfl⟩
  · exact f59_none h hd hx
  · rw [List.concat_eq_append] at *
    exact f59_some h hd hx hn hln hmo

/-! ### Trim -/
theorem f57_loop (n : Int) : ∀ (r : List Sg) (σ : St) (A : AD) (js : List Nat) (a : Sg), WS σ l d n0 most A js (a :: r) safe s → downA A = false →
    ∃ σ' B js' segs', Fw σ σ' d n0 ∧ B.1 = A.1 ∧ (armA0 A = 0 → armA0 B = 0) ∧ segs' <:+ (a :: r) ∧ segs' ≠ [] ∧ (segs' = a :: r ∨ (firstS segs' : Int) ≤ n) ∧
      ((f57_l0 (some l) n σ = some (.inl σ') ∧ downA B = false ∧ WS σ' l d n0 most B js' segs' safe s) ∨
       (f57_l0 (some l) n σ = some (.inr (11, σ')) ∧ downA B = true ∧ armA0 A ≠ 0 ∧ LG σ' l d most js' segs' safe ∧ safe = safeOf segs' s ∧ DV σ' d n0 B ∧ OkA B ∧ DLs B.2.1 segs' s))
  | [], σ, A, js, a, h, hd => by
    refine ⟨σ, A, js, [a], Fw.refl _ _ _, rfl, id, List.suffix_refl _, by simp, .inl rfl, .inl ⟨?_, hd, h⟩⟩
    have hlo := h.lg.lo
    have hjl := All2.len h.lg.lie
    rw [f57_l0]
    simp only [hlo, Option.bind_eq_bind, Option.bind_some]
    rw [if_neg (by rw [List.length_map, hjl]; simp)]
  | b :: r, σ, A, js, a, h, hd => by
    have hlo := h.lg.lo
    have hlie := h.lg.lie
    have hnd := h.lg.nd
    have hlen := h.len
    cases js with
    | nil => exact hlie.elim
    | cons ja js =>
      cases js with
      | nil => exact hlie.2.elim
      | cons jb js =>
        obtain ⟨k1, k2, k3⟩ := hlie
        have hx1 : ix ((ja :: jb :: js).map some) 1 = some (some jb) := by
          have := ix_at (l := (ja :: jb :: js).map some) (n := 1) (by simp)
          simpa using this
        have hx0 : ix ((ja :: jb :: js).map some) 0 = some (some ja) := by
          have := ix_at (l := (ja :: jb :: js).map some) (n := 0) (by simp)
          simpa using this
        rw [f57_l0]
        simp only [hlo, Option.bind_eq_bind, Option.bind_some]
        rw [if_pos (by simp; omega), hx1]
        simp only [Option.bind_some, k2]
        by_cases c : (b.1 : Int) ≤ n
        case neg =>
          rw [if_neg (by simpa using c)]
          exact ⟨σ, A, _, _, Fw.refl _ _ _, rfl, id, List.suffix_refl _, by simp, .inl rfl, .inl ⟨rfl, hd, h⟩⟩
        rw [if_pos (by simpa using c), hx0]
        have htop := h.good.top12 (g := a) (by simp)
        obtain ⟨σ1, g1, g2, g3⟩ := f37_eq h.dv h.ok (fileL a.1)
        -- the first file is there
        obtain ⟨pre', gl, hpg⟩ : ∃ pre' gl, b :: r = pre' ++ [gl] := by
          rcases List.eq_nil_or_concat (b :: r) with h0 | ⟨p, q, h0⟩
          · simp at h0
          · exact ⟨p, q, by rw [h0, List.concat_eq_append]⟩
        have hdl := h.dl
        have hsegs : a :: b :: r = (a :: pre') ++ [gl] := by rw [hpg]; rfl
        rw [hsegs] at hdl
        obtain ⟨hp, hs⟩ := hdl.inv
        have hfd : findL (fileL a.1) A.2.1 = some (lgA a) := findL_of h.ok.sorted (hp.mem_iff.2 (by simp)) rfl
        have hch := h.good.chain
        have hrise := List.pairwise_cons.1 hch.rise
        have hdrop : (dropL (fileL a.1) A.2.1).Perm (pre'.map lgA ++ [lgF gl s]) := by
          refine (dropL_congr hp).trans ?_
          have : dropL (fileL a.1) ((a :: pre').map lgA ++ [lgF gl s]) = dropL (fileL a.1) (pre'.map lgA ++ [lgF gl s]) := by
            simp [dropL, lgA]
          rw [this, dropL_self]
          intro f hf e
          rcases List.mem_append.1 hf with hf | hf
          · obtain ⟨q, hq, rfl⟩ := List.mem_map.1 hf
            have := hrise.1 q (by rw [hpg]; simp [hq])
            exact Nat.ne_of_gt this (fileL_inj e)
          · simp only [List.mem_cons, List.not_mem_nil, or_false] at hf
            rw [hf] at e
            have := hrise.1 gl (by rw [hpg]; simp)
            exact Nat.ne_of_gt this (fileL_inj e)
        have hgood2 : Good (b :: r) := ⟨hch.tail, fun q hq => h.good.recs q (List.mem_cons_of_mem _ hq), fun q hq => h.good.top q (List.mem_cons_of_mem _ hq)⟩
        have hsf2 : safe = safeOf (b :: r) s := by
          rw [h.sf, hsegs, hpg, safeOf_app, safeOf_app]
        obtain ⟨B, b1, b2, b3, ⟨b4, b5, b6⟩ | ⟨b4, b5, b6, b7⟩⟩ := remove_cases h.ok hd hfd
        · rw [b6] at g1 g2
          have l1 := h.lg.same g3.oth
          have hlo1 := l1.lo
          have hlg2 : LG (σ1.set128 l (some d, nmL, most, (jb :: js).map some, (safe : Int), ())) l d most (jb :: js) (b :: r) safe := by
            refine ⟨set128_get hlo1, (List.nodup_cons.1 hnd).2, ?_⟩
            have := l1.lie
            exact ⟨this.2.1, this.2.2⟩
          have hws : WS (σ1.set128 l (some d, nmL, most, (jb :: js).map some, (safe : Int), ())) l d n0 most B (jb :: js) (b :: r) safe s :=
            ⟨hlg2, g2.same rfl rfl, b2, by rw [b5, hpg]; exact .some hdrop hs, hgood2, by simp at hlen ⊢; omega, hsf2⟩
          obtain ⟨σ', B', js', segs', f1, f2, f3, f4, f5, f6, f7⟩ := f57_loop n r _ B (jb :: js) b hws b4
          refine ⟨σ', B', js', segs', (g3.fw.trans (Fw.of (σ' := σ1.set128 l (some d, nmL, most, (jb :: js).map some, (safe : Int), ())) rfl rfl rfl)).trans f1, f2.trans b1, fun hh => f3 (b3 hh), f4.trans (List.suffix_cons _ _), f5, .inr ?_, ?_⟩
          · rcases f6 with rfl | f6
            · exact c
            · exact f6
          · have erun : f57_l0 (some l) n (σ1.set128 l (some d, nmL, most, (jb :: js).map some, (safe : Int), ())) = (some ja >>= fun i => f98 (some l) (some i) σ >>= fun r21 => f37 (some d) r21 σ >>= fun r22 => if (r22.1 != 0) = true then some (.inr (r22.1, r22.2)) else (r22.2.t128[l]?) >>= fun o27 => if (0 : Int) ≤ 1 ∧ 1 ≤ (o27.2.2.2.1.length : Int) then if 0 < (o27.2.2.2.1.drop (Int.toNat 1)).length then if (o27.2.2.2.1.drop (Int.toNat 1)).length * 8 ≤ 140737488355328 then f57_l0 (some l) n (r22.2.set128 l (o27.1, o27.2.1, o27.2.2.1, o27.2.2.2.1.drop (Int.toNat 1), o27.2.2.2.2.1, ())) else none else none else none) := by
              simp only [Option.bind_eq_bind, Option.bind_some, f98_lie h.lg k1 htop]
              rw [g1]
              simp only [Option.bind_some]
              rw [if_neg (by simp), hlo1]
              simp only [Option.bind_some]
              have t1 : Int.toNat 1 = 1 := rfl
              have hjl : js.length ≤ 900 := by
                have := All2.len h.lg.lie
                simp only [List.length_cons] at this hlen; omega
              simp only [t1]
              rw [if_pos (by simp; omega), if_pos (by simp), if_pos (by simp; omega)]
              rfl
            rcases f7 with ⟨f7, f8, f9⟩ | ⟨f7, f8, f9, f10⟩
            · refine .inl ⟨?_, f8, f9⟩
              rw [← f7, erun]
              rfl
            · refine .inr ⟨?_, f8, fun hh => f9 (b3 hh), f10⟩
              rw [← f7, erun]
              rfl
        · rw [b7] at g1 g2
          refine ⟨σ1, B, _, _, g3.fw, b1, b3, List.suffix_refl _, by simp, .inl rfl, .inr ⟨?_, b4, b6, h.lg.same g3.oth, h.sf, g2, b2, by rw [b5]; exact h.dl⟩⟩
          simp only [Option.bind_some, f98_lie h.lg k1 htop]
          rw [g1]
          simp

theorem f57_eq (h : WS σ l d n0 most A js segs safe s) (hd : downA A = false) (n : Int) :
    ∃ σ' B js' segs' e, f57 (some l) n σ = some (e, σ') ∧ Fw σ σ' d n0 ∧ B.1 = A.1 ∧ (armA0 A = 0 → armA0 B = 0) ∧ segs' <:+ segs ∧ (segs' = [] → segs = []) ∧ (segs' = segs ∨ (firstS segs' : Int) ≤ n) ∧
      ((e = 0 ∧ downA B = false ∧ WS σ' l d n0 most B js' segs' safe s) ∨
       (e = 11 ∧ downA B = true ∧ armA0 A ≠ 0 ∧ LG σ' l d most js' segs' safe ∧ safe = safeOf segs' s ∧ DV σ' d n0 B ∧ OkA B ∧ DLs B.2.1 segs' s)) := by
  cases segs with
  | nil =>
    have hj : js = [] := by
      have := All2.len h.lg.lie
      exact List.eq_nil_of_length_eq_zero (by simpa using this)
    have hlo := h.lg.lo
    have e1 : f57_l0 (some l) n σ = some (.inl σ) := by
      rw [f57_l0]
      simp only [hlo, Option.bind_eq_bind, Option.bind_some]
      rw [if_neg (by rw [hj]; simp)]
    refine ⟨σ, A, js, [], 0, ?_, Fw.refl _ _ _, rfl, id, List.suffix_refl _, fun _ => rfl, .inl rfl, .inl ⟨rfl, hd, h⟩⟩
    unfold f57
    rw [if_neg (by simp), e1]
    rfl
  | cons a r =>
    obtain ⟨σ', B, js', segs', f1, f2, f3, f4, f5, f6, ⟨f7, f8, f9⟩ | ⟨f7, f8, f9⟩⟩ := f57_loop n r σ A js a h hd
    · refine ⟨σ', B, js', segs', 0, ?_, f1, f2, f3, f4, fun hh => absurd hh f5, f6, .inl ⟨rfl, f8, f9⟩⟩
      unfold f57
      rw [if_neg (by simp), f7]
      rfl
    · refine ⟨σ', B, js', segs', 11, ?_, f1, f2, f3, f4, fun hh => absurd hh f5, f6, .inr ⟨rfl, f8, f9⟩⟩
      unfold f57
      rw [if_neg (by simp), f7]
      rfl
end
end Go.Proofs.Ytlfemhkabjafeaa.M

/- Printed by own program: twins and walks. -/
set_option linter.unusedVariables false
set_option maxRecDepth 100000
namespace Go.Proofs.Ytlfemhkabjafeaa.M
open Go.Proofs (Try.prog Try.func52 Try.f52 Try.func56 Try.f56 Try.func14 Try.f14)

def f52_l0 (p1 : List K97.den) (r3 : ((Option Nat) × Int) × St) (l12 : List (List UInt8)) (x13 : Int) (x14 : Int) (σ15 : St) : Option (Sum ((List (List UInt8)) × Int × Int × St) (((Option Nat) × (List (List UInt8)) × Int) × St)) :=
  if ((decide (x14 < (p1.length : Int))) && (decide (x14 < 50))) = true then
  (ix p1 x14) >>= fun x24 =>
  if (decide (x24.1 ≥ 0)) = true then
  if (decide (x24.1 < 4)) = true then
  if (decide ((x24.2.1.length : Int) ≤ 1024)) = true then
  if (l12.length + 1) * 16 ≤ 140737488355328 then
  f59 r3.1.1 x24.2.1 σ15 >>= fun r32 =>
  if (r32.1.2 != 0) = true then
  f60 r3.1.1 r32.2 >>= fun r35 =>
  some (.inr ((r3.1.1, l12 ++ [x24.2.1], if r35 > x13 then r35 else x13), r32.2))
  else
  f60 r3.1.1 r32.2 >>= fun r36 =>
  f52_l0 p1 r3 (l12 ++ [x24.2.1]) (if r36 > x13 then r36 else x13) (IntKind.wrap .i64 (x14 + 1)) r32.2
  else none
  else
  if (x24.1 == 4) = true then
  f61 r3.1.1 σ15 >>= fun r39 =>
  if (r39.1 != 0) = true then
  f60 r3.1.1 r39.2 >>= fun r41 =>
  some (.inr ((r3.1.1, l12, if r41 > x13 then r41 else x13), r39.2))
  else
  f60 r3.1.1 r39.2 >>= fun r42 =>
  f52_l0 p1 r3 l12 (if r42 > x13 then r42 else x13) (IntKind.wrap .i64 (x14 + 1)) r39.2
  else
  if (x24.1 == 5) = true then
  f57 r3.1.1 x24.2.2.1 σ15 >>= fun r45 =>
  if (r45.1 != 0) = true then
  f60 r3.1.1 r45.2 >>= fun r47 =>
  some (.inr ((r3.1.1, l12, if r47 > x13 then r47 else x13), r45.2))
  else
  f60 r3.1.1 r45.2 >>= fun r48 =>
  f52_l0 p1 r3 l12 (if r48 > x13 then r48 else x13) (IntKind.wrap .i64 (x14 + 1)) r45.2
  else
  f60 r3.1.1 σ15 >>= fun r49 =>
  f52_l0 p1 r3 l12 (if r49 > x13 then r49 else x13) (IntKind.wrap .i64 (x14 + 1)) σ15
  else
  if (x24.1 == 4) = true then
  f61 r3.1.1 σ15 >>= fun r52 =>
  if (r52.1 != 0) = true then
  f60 r3.1.1 r52.2 >>= fun r54 =>
  some (.inr ((r3.1.1, l12, if r54 > x13 then r54 else x13), r52.2))
  else
  f60 r3.1.1 r52.2 >>= fun r55 =>
  f52_l0 p1 r3 l12 (if r55 > x13 then r55 else x13) (IntKind.wrap .i64 (x14 + 1)) r52.2
  else
  if (x24.1 == 5) = true then
  f57 r3.1.1 x24.2.2.1 σ15 >>= fun r58 =>
  if (r58.1 != 0) = true then
  f60 r3.1.1 r58.2 >>= fun r60 =>
  some (.inr ((r3.1.1, l12, if r60 > x13 then r60 else x13), r58.2))
  else
  f60 r3.1.1 r58.2 >>= fun r61 =>
  f52_l0 p1 r3 l12 (if r61 > x13 then r61 else x13) (IntKind.wrap .i64 (x14 + 1)) r58.2
  else
  f60 r3.1.1 σ15 >>= fun r62 =>
  f52_l0 p1 r3 l12 (if r62 > x13 then r62 else x13) (IntKind.wrap .i64 (x14 + 1)) σ15
  else
  if (x24.1 == 4) = true then
  f61 r3.1.1 σ15 >>= fun r65 =>
  if (r65.1 != 0) = true then
  f60 r3.1.1 r65.2 >>= fun r67 =>
  some (.inr ((r3.1.1, l12, if r67 > x13 then r67 else x13), r65.2))
  else
  f60 r3.1.1 r65.2 >>= fun r68 =>
  f52_l0 p1 r3 l12 (if r68 > x13 then r68 else x13) (IntKind.wrap .i64 (x14 + 1)) r65.2
  else
  if (x24.1 == 5) = true then
  f57 r3.1.1 x24.2.2.1 σ15 >>= fun r71 =>
  if (r71.1 != 0) = true then
  f60 r3.1.1 r71.2 >>= fun r73 =>
  some (.inr ((r3.1.1, l12, if r73 > x13 then r73 else x13), r71.2))
  else
  f60 r3.1.1 r71.2 >>= fun r74 =>
  f52_l0 p1 r3 l12 (if r74 > x13 then r74 else x13) (IntKind.wrap .i64 (x14 + 1)) r71.2
  else
  f60 r3.1.1 σ15 >>= fun r75 =>
  f52_l0 p1 r3 l12 (if r75 > x13 then r75 else x13) (IntKind.wrap .i64 (x14 + 1)) σ15
  else
  some (.inl (l12, x13, x14, σ15))
  partial_fixpoint

def f52 (p0 : Option Nat) (p1 : List K97.den) (σ : St) : Option (((Option Nat) × (List (List UInt8)) × Int) × St) :=
  f53 p0 [108, 111, 103] 100 σ >>= fun r3 =>
  if (r3.1.2 != 0) = true then
  some ((none, [], 0), r3.2)
  else
  f52_l0 p1 r3 [] 0 0 r3.2 >>= fun rr77 => (match rr77 with
  | .inr yy => some yy
  | .inl z76 =>
  some ((r3.1.1, z76.1, z76.2.1), z76.2.2.2))

theorem f52_ok {p0 : Option Nat} {p1 : List K97.den} {σ : St} {p : ((Option Nat) × (List (List UInt8)) × Int) × St} (h : f52 p0 p1 σ = some p) : Spec Try.prog 52 [.kv (.ptr 105) p0, .kv (.list K97) p1] (tabs σ) (.tup [⟨(.ptr 128), p.1.1⟩, ⟨(.list .str), p.1.2.1⟩, ⟨.i, p.1.2.2⟩]) (tabs p.2) := by
  refine Spec.intro Try.func52 (by kernel_rfl) rfl (by kernel_rfl) (fun a w G0 Ls hE hH hN => ?_)
  have hle : G0.le G0 := Gh.le_refl G0
  unfold f52 at h
  refine wp_seq_k (fun K hK1 => ?_)
  refine wp_region_from ?_
  refine segO 3 [] [(4, .val (.pointer none)), (5, .val (.slice none 0 0)), (6, .kv .i 0)] (Os := []) trivial hE hH (by kernel_rfl) (fun a hE => ?_)
  refine wpFrom_end (by kernel_rfl) ?_
  refine Exit.then_normal (hK1 _ _ ?_)
  refine wp_seq_k (fun K hK2 => ?_)
  refine wp_region_from ?_
  refine segO 1 [] [(16, .kv (.ptr 105) p0)] (Os := []) trivial hE hH (by kernel_rfl) (fun a hE => ?_)
  obtain ⟨r3, hr3, h⟩ := bs h
  refine stepCall (d := (some 17)) (f53_ok hr3) hE hH hN (by kernel_rfl) (by kernel_rfl) trivial (fun a w G hl1 hE hH => ?_)
  have hle := Gh.le_trans hle hl1
  refine segO 5 [] [(7, .kv (.ptr 128) r3.1.1), (8, .kv .i r3.1.2)] (Os := []) trivial hE hH (by kernel_rfl) (fun a hE => ?_)
  refine wpFrom_end (by kernel_rfl) ?_
  refine Exit.then_normal (hK2 _ _ ?_)
  refine wp_seq_k (fun K hK4 => ?_)
  refine wp_seq_k (fun K hK5 => ?_)
  refine wp_region_from ?_
  refine segO 2 [] [(21, .kv .bool (r3.1.2 != 0))] (Os := []) trivial hE hH (by kernel_rfl) (fun a hE => ?_)
  refine wpFrom_end (by kernel_rfl) ?_
  refine Exit.then_normal (hK5 _ _ ?_)
  refine condE (b := r3.1.2 != 0) hE (by kernel_rfl) (fun hc => ?_) (fun hc => ?_)
  · replace h := ifT hc h
    refine wp_seq_k (fun K hK6 => ?_)
    refine wp_region_from ?_
    refine segO 3 [] [(4, .val (.pointer none)), (5, .val (.slice none 0 0)), (6, .kv .i 0)] (Os := []) trivial hE hH (by kernel_rfl) (fun a hE => ?_)
    refine wpFrom_end (by kernel_rfl) ?_
    refine Exit.then_normal (hK6 _ _ ?_)
    refine wp_ret ?_
    refine Exit.then_ret ?_
    cases h
    exact ret3 rfl hE hle hH (by kernel_rfl)
  · replace h := ifF hc h
    refine wp_skip ?_
    refine Exit.then_normal (hK4 _ _ ?_)
    refine wp_seq_k (fun K hK7 => ?_)
    refine wp_region_from ?_
    refine segO 1 [] [(9, .val (.slice none 0 0))] (Os := []) trivial hE hH (by kernel_rfl) (fun a hE => ?_)
    refine wpFrom_end (by kernel_rfl) ?_
    refine Exit.then_normal (hK7 _ _ ?_)
    refine wp_seq_k (fun K hK8 => ?_)
    refine wp_region_from ?_
    refine segO 1 [] [(10, .kv .i 0)] (Os := []) trivial hE hH (by kernel_rfl) (fun a hE => ?_)
    refine wpFrom_end (by kernel_rfl) ?_
    refine Exit.then_normal (hK8 _ _ ?_)
    refine wp_seq_k (fun K hK9 => ?_)
    refine wp_seq_k (fun K hK10 => ?_)
    refine wp_region_from ?_
    refine segO 1 [] [(11, .kv .i 0)] (Os := []) trivial hE hH (by kernel_rfl) (fun a hE => ?_)
    refine wpFrom_end (by kernel_rfl) ?_
    refine Exit.then_normal (hK10 _ _ ?_)
    refine wp_block ?_
    have hE := hE.nilTl 9 .str (by kernel_rfl)
    have hH := hH.nilTk 9 16 .str
    obtain ⟨rr77, hrr77, h⟩ := bs h
    refine loop_intro (fun Q16 c hQ hc => ?_)
    have key : ∀ (l12 : List (List UInt8)) (x13 : Int) (x14 : Int) (σ15 : St) (rr : Sum ((List (List UInt8)) × Int × Int × St) (((Option Nat) × (List (List UInt8)) × Int) × St)), f52_l0 p1 r3 l12 x13 x14 σ15 = some rr → ∀ (a : Act) (w : World) (G : Gh) (v11 : Value), G0.le G → EnvR G 106 a [(1, .kv (.list K97) p1), (4, .val (.pointer none)), (5, .val (.slice none 0 0)), (6, .kv .i 0), (7, .kv (.ptr 128) r3.1.1), (9, .tl v11 .str l12), (10, .kv .i x13), (11, .kv .i x14)] → Holds w G (tabs σ15) (LS.tk v11 9 16 .str l12 :: Ls) → (∀ z76 : (List (List UInt8)) × Int × Int × St, rr = .inl z76 → ∀ (a : Act) (w : World) (G : Gh) (v11 : Value), G0.le G → EnvR G 106 a [(1, .kv (.list K97) p1), (4, .val (.pointer none)), (5, .val (.slice none 0 0)), (6, .kv .i 0), (7, .kv (.ptr 128) r3.1.1), (9, .tl v11 .str z76.1), (10, .kv .i z76.2.1), (11, .kv .i z76.2.2.1)] → Holds w G (tabs z76.2.2.2) (LS.tk v11 9 16 .str z76.1 :: Ls) → Q16 (.exit 0) a w) → (∀ yy : ((Option Nat) × (List (List UInt8)) × Int) × St, rr = .inr yy → ∀ (a : Act) (w : World), PostB Try.prog Try.f52 G0 (.tup [⟨(.ptr 128), yy.1.1⟩, ⟨(.list .str), yy.1.2.1⟩, ⟨.i, yy.1.2.2⟩]) (tabs yy.2) Ls .ret a w → Q16 .ret a w) → Rnd Try.prog c Q16 a w := by
      refine f52_l0.partial_correctness p1 r3 _ ?_
      intro self ih19 l12 x13 x14 σ15 rr h a w G v11 hle hE hH hx17 hret18
      refine rnd_step' hc ?_
      refine wp_seq_k (fun K hK20 => ?_)
      refine wp_seq_k (fun K hK21 => ?_)
      refine wp_region_from ?_
      refine segO 8 [] [(29, .kv .bool ((decide (x14 < (p1.length : Int))) && (decide (x14 < 50))))] (Os := []) trivial hE hH (by kernel_rfl) (fun a hE => ?_)
      refine wpFrom_end (by kernel_rfl) ?_
      refine Exit.then_normal (hK21 _ _ ?_)
      refine condE (b := (decide (x14 < (p1.length : Int))) && (decide (x14 < 50))) hE (by kernel_rfl) (fun hc => ?_) (fun hc => ?_)
      · replace h := ifT hc h
        refine wp_skip ?_
        refine Exit.then_normal (hK20 _ _ ?_)
        refine wp_seq_k (fun K hK22 => ?_)
        refine wp_block ?_
        refine wp_seq_k (fun K hK23 => ?_)
        refine wp_region_from ?_
        obtain ⟨x24, hx24, h⟩ := bs h
        refine segO 4 [.ix K97 x24] [(35, .kv K97 x24)] (Os := [_]) ⟨(IxAt.of (k := K97) hx24), trivial⟩ hE hH (by kernel_rfl) (fun a hE => ?_)
        refine stepAlloc (e := 97) (d := (some 12)) K97  hE hH (by kernel_rfl) (by kernel_rfl) (fun b25 a w G hl2 hE hH => ?_)
        have hle := Gh.le_trans hle hl2
        refine stepStB (b := b25) (off := 0) 0 K97 x24 (x' := x24) hE hH (by kernel_rfl) rfl (by kernel_rfl) (fun w G hl3 hE hH => ?_)
        have hle := Gh.le_trans hle hl3
        refine wpFrom_end (by kernel_rfl) ?_
        refine Exit.then_normal (hK23 _ _ ?_)
        refine wp_seq_k (fun K hK26 => ?_)
        refine wp_block ?_
        refine wp_seq_k (fun K hK27 => ?_)
        refine wp_region_from ?_
        refine segO 4 [.bx 0 K97 x24] [(40, .kv .bool (decide (x24.1 ≥ 0)))] (Os := [_]) ⟨(rfl : (LS.box b25 K97 x24 :: LS.tk v11 9 16 .str l12 :: Ls)[0]? = some (LS.box b25 K97 x24)), trivial⟩ hE hH (by kernel_rfl) (fun a hE => ?_)
        by_cases hc : (decide (x24.1 ≥ 0)) = true
        · replace h := ifT hc h
          have hE := hE.setB 40 (by kernel_rfl) hc
          refine segO 5 [.bx 0 K97 x24] [(45, .kv .bool (decide (x24.1 < 4)))] (Os := [_]) ⟨(rfl : (LS.box b25 K97 x24 :: LS.tk v11 9 16 .str l12 :: Ls)[0]? = some (LS.box b25 K97 x24)), trivial⟩ hE hH (by kernel_rfl) (fun a hE => ?_)
          by_cases hc : (decide (x24.1 < 4)) = true
          · replace h := ifT hc h
            have hE := hE.setB 45 (by kernel_rfl) hc
            refine segO 6 [.bx 0 K97 x24] [(36, .kv .bool (decide ((x24.2.1.length : Int) ≤ 1024)))] (Os := [_]) ⟨(rfl : (LS.box b25 K97 x24 :: LS.tk v11 9 16 .str l12 :: Ls)[0]? = some (LS.box b25 K97 x24)), trivial⟩ hE hH (by kernel_rfl) (fun a hE => ?_)
            refine wpFrom_end (by kernel_rfl) ?_
            refine Exit.then_normal (hK27 _ _ ?_)
            refine condE (b := decide ((x24.2.1.length : Int) ≤ 1024)) hE (by kernel_rfl) (fun hc => ?_) (fun hc => ?_)
            · replace h := ifT hc h
              refine wp_seq_k (fun K hK28 => ?_)
              refine wp_region_from ?_
              refine segO 3 [.bx 0 K97 x24] [(51, .tl v11 .str l12), (53, .kv .str x24.2.1)] (Os := [_]) ⟨(rfl : (LS.box b25 K97 x24 :: LS.tk v11 9 16 .str l12 :: Ls)[0]? = some (LS.box b25 K97 x24)), trivial⟩ hE hH (by kernel_rfl) (fun a hE => ?_)
              refine stepBuildS (d := (some 54)) .str [x24.2.1] hE hH (by kernel_rfl) (by kernel_rfl) (fun a w G hl4 hE hH => ?_)
              have hle := Gh.le_trans hle hl4
              obtain ⟨q29, h⟩ := gd h
              refine stepApp (e := 0) (bt := 16) (ys := [x24.2.1]) (e' := 9) (d := (some 55)) 1 hE hH (by kernel_rfl) rfl (by kernel_rfl) q29 (fun v30 a w G hl5 hE hH => ?_)
              have hle := Gh.le_trans hle hl5
              refine segO 1 [] [(9, .tl v30 .str (l12 ++ [x24.2.1]))] (Os := []) trivial hE hH (by kernel_rfl) (fun a hE => ?_)
              refine wpFrom_end (by kernel_rfl) ?_
              refine Exit.then_normal (hK28 _ _ ?_)
              refine wp_seq_k (fun K hK31 => ?_)
              refine wp_region_from ?_
              refine segO 3 [.bx 0 K97 x24] [(57, .kv (.ptr 128) r3.1.1), (59, .kv .str x24.2.1)] (Os := [_]) ⟨(rfl : (LS.box b25 K97 x24 :: LS.tk v30 9 16 .str (l12 ++ [x24.2.1]) :: Ls)[0]? = some (LS.box b25 K97 x24)), trivial⟩ hE hH (by kernel_rfl) (fun a hE => ?_)
              obtain ⟨r32, hr32, h⟩ := bs h
              refine stepCall (d := (some 60)) (f59_ok hr32) hE hH (NoHole.cons (fun _ _ _ => rfl) (NoHole.cons (fun _ _ _ => rfl) hN)) (by kernel_rfl) (by kernel_rfl) trivial (fun a w G hl6 hE hH => ?_)
              have hle := Gh.le_trans hle hl6
              refine segO 5 [] [(14, .kv .i r32.1.2)] (Os := []) trivial hE hH (by kernel_rfl) (fun a hE => ?_)
              refine wpFrom_end (by kernel_rfl) ?_
              refine Exit.then_normal (hK31 _ _ ?_)
              refine wp_seq_k (fun K hK33 => ?_)
              refine wp_region_from ?_
              refine segO 2 [] [(64, .kv .bool (r32.1.2 != 0))] (Os := []) trivial hE hH (by kernel_rfl) (fun a hE => ?_)
              refine wpFrom_end (by kernel_rfl) ?_
              refine Exit.then_normal (hK33 _ _ ?_)
              refine condE (b := r32.1.2 != 0) hE (by kernel_rfl) (fun hc => ?_) (fun hc => ?_)
              · replace h := ifT hc h
                refine wp_seq_k (fun K hK34 => ?_)
                refine wp_region_from ?_
                refine segO 4 [] [(65, .kv (.ptr 128) r3.1.1), (66, .tl v30 .str (l12 ++ [x24.2.1])), (67, .kv .i x13), (68, .kv (.ptr 128) r3.1.1)] (Os := []) trivial hE hH (by kernel_rfl) (fun a hE => ?_)
                obtain ⟨r35, hr35, h⟩ := bs h
                refine stepCall (d := (some 69)) (f60_ok hr35) hE hH (NoHole.cons (fun _ _ _ => rfl) (NoHole.cons (fun _ _ _ => rfl) hN)) (by kernel_rfl) (by kernel_rfl) trivial (fun a w G hl7 hE hH => ?_)
                have hle := Gh.le_trans hle hl7
                refine segO 4 [] [(4, .kv (.ptr 128) r3.1.1), (5, .tl v30 .str (l12 ++ [x24.2.1])), (6, .kv .i (if r35 > x13 then r35 else x13))] (Os := []) trivial hE hH (by kernel_rfl) (fun a hE => ?_)
                refine wpFrom_end (by kernel_rfl) ?_
                refine Exit.then_normal (hK34 _ _ ?_)
                refine wp_ret ?_
                refine Exit.in_ret ?_
                refine Exit.then_ret ?_
                refine Exit.in_ret ?_
                refine Exit.then_ret ?_
                refine Exit.then_ret ?_
                have hH := hH.drop (fun _ _ _ => rfl)
                have hH := hH.drop (fun _ _ _ => rfl)
                cases h
                exact hret18 _ rfl _ _ (ret3 rfl hE hle hH (by kernel_rfl))
              · replace h := ifF hc h
                refine wp_skip ?_
                refine Exit.in_normal ?_
                refine Exit.then_normal (hK26 _ _ ?_)
                refine wp_region_from ?_
                refine segO 2 [] [(99, .kv .i x13), (100, .kv (.ptr 128) r3.1.1)] (Os := []) trivial hE hH (by kernel_rfl) (fun a hE => ?_)
                obtain ⟨r36, hr36, h⟩ := bs h
                refine stepCall (d := (some 101)) (f60_ok hr36) hE hH (NoHole.cons (fun _ _ _ => rfl) (NoHole.cons (fun _ _ _ => rfl) hN)) (by kernel_rfl) (by kernel_rfl) trivial (fun a w G hl8 hE hH => ?_)
                have hle := Gh.le_trans hle hl8
                refine segO 2 [] [(10, .kv .i (if r36 > x13 then r36 else x13))] (Os := []) trivial hE hH (by kernel_rfl) (fun a hE => ?_)
                refine wpFrom_end (by kernel_rfl) ?_
                refine Exit.in_normal ?_
                refine Exit.then_normal (hK22 _ _ ?_)
                refine wp_region_from ?_
                refine segO 3 [] [(11, .kv .i (IntKind.wrap .i64 (x14 + 1)))] (Os := []) trivial hE hH (by kernel_rfl) (fun a hE => ?_)
                refine wpFrom_end (by kernel_rfl) ?_
                have hH := hH.drop (fun _ _ _ => rfl)
                refine Exit.then_normal ?_
                exact ih19 _ _ _ _ _ h _ _ _ v30 hle (hE.subC (by kernel_rfl)) hH hx17 hret18
            · replace h := ifF hc h
              refine wp_seq_k (fun K hK37 => ?_)
              refine wp_region_from ?_
              refine segO 4 [.bx 0 K97 x24] [(71, .kv .bool (x24.1 == 4))] (Os := [_]) ⟨(rfl : (LS.box b25 K97 x24 :: LS.tk v11 9 16 .str l12 :: Ls)[0]? = some (LS.box b25 K97 x24)), trivial⟩ hE hH (by kernel_rfl) (fun a hE => ?_)
              refine wpFrom_end (by kernel_rfl) ?_
              refine Exit.then_normal (hK37 _ _ ?_)
              refine condE (b := x24.1 == 4) hE (by kernel_rfl) (fun hc => ?_) (fun hc => ?_)
              · replace h := ifT hc h
                refine wp_seq_k (fun K hK38 => ?_)
                refine wp_region_from ?_
                refine segO 1 [] [(75, .kv (.ptr 128) r3.1.1)] (Os := []) trivial hE hH (by kernel_rfl) (fun a hE => ?_)
                obtain ⟨r39, hr39, h⟩ := bs h
                refine stepCall (d := (some 76)) (f61_ok hr39) hE hH (NoHole.cons (fun _ _ _ => rfl) (NoHole.cons (fun _ _ _ => rfl) hN)) (by kernel_rfl) (by kernel_rfl) trivial (fun a w G hl9 hE hH => ?_)
                have hle := Gh.le_trans hle hl9
                refine segO 1 [] [(77, .kv .bool (r39.1 != 0))] (Os := []) trivial hE hH (by kernel_rfl) (fun a hE => ?_)
                refine wpFrom_end (by kernel_rfl) ?_
                refine Exit.then_normal (hK38 _ _ ?_)
                refine condE (b := r39.1 != 0) hE (by kernel_rfl) (fun hc => ?_) (fun hc => ?_)
                · replace h := ifT hc h
                  refine wp_seq_k (fun K hK40 => ?_)
                  refine wp_region_from ?_
                  refine segO 4 [] [(78, .kv (.ptr 128) r3.1.1), (79, .tl v11 .str l12), (80, .kv .i x13), (81, .kv (.ptr 128) r3.1.1)] (Os := []) trivial hE hH (by kernel_rfl) (fun a hE => ?_)
                  obtain ⟨r41, hr41, h⟩ := bs h
                  refine stepCall (d := (some 82)) (f60_ok hr41) hE hH (NoHole.cons (fun _ _ _ => rfl) (NoHole.cons (fun _ _ _ => rfl) hN)) (by kernel_rfl) (by kernel_rfl) trivial (fun a w G hl10 hE hH => ?_)
                  have hle := Gh.le_trans hle hl10
                  refine segO 4 [] [(4, .kv (.ptr 128) r3.1.1), (5, .tl v11 .str l12), (6, .kv .i (if r41 > x13 then r41 else x13))] (Os := []) trivial hE hH (by kernel_rfl) (fun a hE => ?_)
                  refine wpFrom_end (by kernel_rfl) ?_
                  refine Exit.then_normal (hK40 _ _ ?_)
                  refine wp_ret ?_
                  refine Exit.in_ret ?_
                  refine Exit.then_ret ?_
                  refine Exit.in_ret ?_
                  refine Exit.then_ret ?_
                  refine Exit.then_ret ?_
                  have hH := hH.drop (fun _ _ _ => rfl)
                  have hH := hH.drop (fun _ _ _ => rfl)
                  cases h
                  exact hret18 _ rfl _ _ (ret3 rfl hE hle hH (by kernel_rfl))
                · replace h := ifF hc h
                  refine wp_skip ?_
                  refine Exit.in_normal ?_
                  refine Exit.then_normal (hK26 _ _ ?_)
                  refine wp_region_from ?_
                  refine segO 2 [] [(99, .kv .i x13), (100, .kv (.ptr 128) r3.1.1)] (Os := []) trivial hE hH (by kernel_rfl) (fun a hE => ?_)
                  obtain ⟨r42, hr42, h⟩ := bs h
                  refine stepCall (d := (some 101)) (f60_ok hr42) hE hH (NoHole.cons (fun _ _ _ => rfl) (NoHole.cons (fun _ _ _ => rfl) hN)) (by kernel_rfl) (by kernel_rfl) trivial (fun a w G hl11 hE hH => ?_)
                  have hle := Gh.le_trans hle hl11
                  refine segO 2 [] [(10, .kv .i (if r42 > x13 then r42 else x13))] (Os := []) trivial hE hH (by kernel_rfl) (fun a hE => ?_)
                  refine wpFrom_end (by kernel_rfl) ?_
                  refine Exit.in_normal ?_
                  refine Exit.then_normal (hK22 _ _ ?_)
                  refine wp_region_from ?_
                  refine segO 3 [] [(11, .kv .i (IntKind.wrap .i64 (x14 + 1)))] (Os := []) trivial hE hH (by kernel_rfl) (fun a hE => ?_)
                  refine wpFrom_end (by kernel_rfl) ?_
                  have hH := hH.drop (fun _ _ _ => rfl)
                  refine Exit.then_normal ?_
                  exact ih19 _ _ _ _ _ h _ _ _ v11 hle (hE.subC (by kernel_rfl)) hH hx17 hret18
              · replace h := ifF hc h
                refine wp_seq_k (fun K hK43 => ?_)
                refine wp_region_from ?_
                refine segO 4 [.bx 0 K97 x24] [(84, .kv .bool (x24.1 == 5))] (Os := [_]) ⟨(rfl : (LS.box b25 K97 x24 :: LS.tk v11 9 16 .str l12 :: Ls)[0]? = some (LS.box b25 K97 x24)), trivial⟩ hE hH (by kernel_rfl) (fun a hE => ?_)
                refine wpFrom_end (by kernel_rfl) ?_
                refine Exit.then_normal (hK43 _ _ ?_)
                refine condE (b := x24.1 == 5) hE (by kernel_rfl) (fun hc => ?_) (fun hc => ?_)
                · replace h := ifT hc h
                  refine wp_seq_k (fun K hK44 => ?_)
                  refine wp_region_from ?_
                  refine segO 3 [.bx 0 K97 x24] [(88, .kv (.ptr 128) r3.1.1), (90, .kv .i x24.2.2.1)] (Os := [_]) ⟨(rfl : (LS.box b25 K97 x24 :: LS.tk v11 9 16 .str l12 :: Ls)[0]? = some (LS.box b25 K97 x24)), trivial⟩ hE hH (by kernel_rfl) (fun a hE => ?_)
                  obtain ⟨r45, hr45, h⟩ := bs h
                  refine stepCall (d := (some 91)) (f57_ok hr45) hE hH (NoHole.cons (fun _ _ _ => rfl) (NoHole.cons (fun _ _ _ => rfl) hN)) (by kernel_rfl) (by kernel_rfl) trivial (fun a w G hl12 hE hH => ?_)
                  have hle := Gh.le_trans hle hl12
                  refine segO 1 [] [(92, .kv .bool (r45.1 != 0))] (Os := []) trivial hE hH (by kernel_rfl) (fun a hE => ?_)
                  refine wpFrom_end (by kernel_rfl) ?_
                  refine Exit.then_normal (hK44 _ _ ?_)
                  refine condE (b := r45.1 != 0) hE (by kernel_rfl) (fun hc => ?_) (fun hc => ?_)
                  · replace h := ifT hc h
                    refine wp_seq_k (fun K hK46 => ?_)
                    refine wp_region_from ?_
                    refine segO 4 [] [(93, .kv (.ptr 128) r3.1.1), (94, .tl v11 .str l12), (95, .kv .i x13), (96, .kv (.ptr 128) r3.1.1)] (Os := []) trivial hE hH (by kernel_rfl) (fun a hE => ?_)
                    obtain ⟨r47, hr47, h⟩ := bs h
                    refine stepCall (d := (some 97)) (f60_ok hr47) hE hH (NoHole.cons (fun _ _ _ => rfl) (NoHole.cons (fun _ _ _ => rfl) hN)) (by kernel_rfl) (by kernel_rfl) trivial (fun a w G hl13 hE hH => ?_)
                    have hle := Gh.le_trans hle hl13
                    refine segO 4 [] [(4, .kv (.ptr 128) r3.1.1), (5, .tl v11 .str l12), (6, .kv .i (if r47 > x13 then r47 else x13))] (Os := []) trivial hE hH (by kernel_rfl) (fun a hE => ?_)
                    refine wpFrom_end (by kernel_rfl) ?_
                    refine Exit.then_normal (hK46 _ _ ?_)
                    refine wp_ret ?_
                    refine Exit.in_ret ?_
                    refine Exit.then_ret ?_
                    refine Exit.in_ret ?_
                    refine Exit.then_ret ?_
                    refine Exit.then_ret ?_
                    have hH := hH.drop (fun _ _ _ => rfl)
                    have hH := hH.drop (fun _ _ _ => rfl)
                    cases h
                    exact hret18 _ rfl _ _ (ret3 rfl hE hle hH (by kernel_rfl))
                  · replace h := ifF hc h
                    refine wp_skip ?_
                    refine Exit.in_normal ?_
                    refine Exit.then_normal (hK26 _ _ ?_)
                    refine wp_region_from ?_
                    refine segO 2 [] [(99, .kv .i x13), (100, .kv (.ptr 128) r3.1.1)] (Os := []) trivial hE hH (by kernel_rfl) (fun a hE => ?_)
                    obtain ⟨r48, hr48, h⟩ := bs h
                    refine stepCall (d := (some 101)) (f60_ok hr48) hE hH (NoHole.cons (fun _ _ _ => rfl) (NoHole.cons (fun _ _ _ => rfl) hN)) (by kernel_rfl) (by kernel_rfl) trivial (fun a w G hl14 hE hH => ?_)
                    have hle := Gh.le_trans hle hl14
                    refine segO 2 [] [(10, .kv .i (if r48 > x13 then r48 else x13))] (Os := []) trivial hE hH (by kernel_rfl) (fun a hE => ?_)
                    refine wpFrom_end (by kernel_rfl) ?_
                    refine Exit.in_normal ?_
                    refine Exit.then_normal (hK22 _ _ ?_)
                    refine wp_region_from ?_
                    refine segO 3 [] [(11, .kv .i (IntKind.wrap .i64 (x14 + 1)))] (Os := []) trivial hE hH (by kernel_rfl) (fun a hE => ?_)
                    refine wpFrom_end (by kernel_rfl) ?_
                    have hH := hH.drop (fun _ _ _ => rfl)
                    refine Exit.then_normal ?_
                    exact ih19 _ _ _ _ _ h _ _ _ v11 hle (hE.subC (by kernel_rfl)) hH hx17 hret18
                · replace h := ifF hc h
                  refine wp_skip ?_
                  refine Exit.in_normal ?_
                  refine Exit.then_normal (hK26 _ _ ?_)
                  refine wp_region_from ?_
                  refine segO 2 [] [(99, .kv .i x13), (100, .kv (.ptr 128) r3.1.1)] (Os := []) trivial hE hH (by kernel_rfl) (fun a hE => ?_)
                  obtain ⟨r49, hr49, h⟩ := bs h
                  refine stepCall (d := (some 101)) (f60_ok hr49) hE hH (NoHole.cons (fun _ _ _ => rfl) (NoHole.cons (fun _ _ _ => rfl) hN)) (by kernel_rfl) (by kernel_rfl) trivial (fun a w G hl15 hE hH => ?_)
                  have hle := Gh.le_trans hle hl15
                  refine segO 2 [] [(10, .kv .i (if r49 > x13 then r49 else x13))] (Os := []) trivial hE hH (by kernel_rfl) (fun a hE => ?_)
                  refine wpFrom_end (by kernel_rfl) ?_
                  refine Exit.in_normal ?_
                  refine Exit.then_normal (hK22 _ _ ?_)
                  refine wp_region_from ?_
                  refine segO 3 [] [(11, .kv .i (IntKind.wrap .i64 (x14 + 1)))] (Os := []) trivial hE hH (by kernel_rfl) (fun a hE => ?_)
                  refine wpFrom_end (by kernel_rfl) ?_
                  have hH := hH.drop (fun _ _ _ => rfl)
                  refine Exit.then_normal ?_
                  exact ih19 _ _ _ _ _ h _ _ _ v11 hle (hE.subC (by kernel_rfl)) hH hx17 hret18
          · replace h := ifN hc h
            have hE := hE.setB 45 (by kernel_rfl) (bf hc)
            refine segO 6 [] [(36, .kv .bool false)] (Os := []) trivial hE hH (by kernel_rfl) (fun a hE => ?_)
            refine wpFrom_end (by kernel_rfl) ?_
            refine Exit.then_normal (hK27 _ _ ?_)
            refine condF hE (by kernel_rfl) rfl ?_
            refine wp_seq_k (fun K hK50 => ?_)
            refine wp_region_from ?_
            refine segO 4 [.bx 0 K97 x24] [(71, .kv .bool (x24.1 == 4))] (Os := [_]) ⟨(rfl : (LS.box b25 K97 x24 :: LS.tk v11 9 16 .str l12 :: Ls)[0]? = some (LS.box b25 K97 x24)), trivial⟩ hE hH (by kernel_rfl) (fun a hE => ?_)
            refine wpFrom_end (by kernel_rfl) ?_
            refine Exit.then_normal (hK50 _ _ ?_)
            refine condE (b := x24.1 == 4) hE (by kernel_rfl) (fun hc => ?_) (fun hc => ?_)
            · replace h := ifT hc h
              refine wp_seq_k (fun K hK51 => ?_)
              refine wp_region_from ?_
              refine segO 1 [] [(75, .kv (.ptr 128) r3.1.1)] (Os := []) trivial hE hH (by kernel_rfl) (fun a hE => ?_)
              obtain ⟨r52, hr52, h⟩ := bs h
              refine stepCall (d := (some 76)) (f61_ok hr52) hE hH (NoHole.cons (fun _ _ _ => rfl) (NoHole.cons (fun _ _ _ => rfl) hN)) (by kernel_rfl) (by kernel_rfl) trivial (fun a w G hl16 hE hH => ?_)
              have hle := Gh.le_trans hle hl16
              refine segO 1 [] [(77, .kv .bool (r52.1 != 0))] (Os := []) trivial hE hH (by kernel_rfl) (fun a hE => ?_)
              refine wpFrom_end (by kernel_rfl) ?_
              refine Exit.then_normal (hK51 _ _ ?_)
              refine condE (b := r52.1 != 0) hE (by kernel_rfl) (fun hc => ?_) (fun hc => ?_)
              · replace h := ifT hc h
                refine wp_seq_k (fun K hK53 => ?_)
                refine wp_region_from ?_
                refine segO 4 [] [(78, .kv (.ptr 128) r3.1.1), (79, .tl v11 .str l12), (80, .kv .i x13), (81, .kv (.ptr 128) r3.1.1)] (Os := []) trivial hE hH (by kernel_rfl) (fun a hE => ?_)
                obtain ⟨r54, hr54, h⟩ := bs h
                refine stepCall (d := (some 82)) (f60_ok hr54) hE hH (NoHole.cons (fun _ _ _ => rfl) (NoHole.cons (fun _ _ _ => rfl) hN)) (by kernel_rfl) (by kernel_rfl) trivial (fun a w G hl17 hE hH => ?_)
                have hle := Gh.le_trans hle hl17
                refine segO 4 [] [(4, .kv (.ptr 128) r3.1.1), (5, .tl v11 .str l12), (6, .kv .i (if r54 > x13 then r54 else x13))] (Os := []) trivial hE hH (by kernel_rfl) (fun a hE => ?_)
                refine wpFrom_end (by kernel_rfl) ?_
                refine Exit.then_normal (hK53 _ _ ?_)
                refine wp_ret ?_
                refine Exit.in_ret ?_
                refine Exit.then_ret ?_
                refine Exit.in_ret ?_
                refine Exit.then_ret ?_
                refine Exit.then_ret ?_
                have hH := hH.drop (fun _ _ _ => rfl)
                have hH := hH.drop (fun _ _ _ => rfl)
                cases h
                exact hret18 _ rfl _ _ (ret3 rfl hE hle hH (by kernel_rfl))
              · replace h := ifF hc h
                refine wp_skip ?_
                refine Exit.in_normal ?_
                refine Exit.then_normal (hK26 _ _ ?_)
                refine wp_region_from ?_
                refine segO 2 [] [(99, .kv .i x13), (100, .kv (.ptr 128) r3.1.1)] (Os := []) trivial hE hH (by kernel_rfl) (fun a hE => ?_)
                obtain ⟨r55, hr55, h⟩ := bs h
                refine stepCall (d := (some 101)) (f60_ok hr55) hE hH (NoHole.cons (fun _ _ _ => rfl) (NoHole.cons (fun _ _ _ => rfl) hN)) (by kernel_rfl) (by kernel_rfl) trivial (fun a w G hl18 hE hH => ?_)
                have hle := Gh.le_trans hle hl18
                refine segO 2 [] [(10, .kv .i (if r55 > x13 then r55 else x13))] (Os := []) trivial hE hH (by kernel_rfl) (fun a hE => ?_)
                refine wpFrom_end (by kernel_rfl) ?_
                refine Exit.in_normal ?_
                refine Exit.then_normal (hK22 _ _ ?_)
                refine wp_region_from ?_
                refine segO 3 [] [(11, .kv .i (IntKind.wrap .i64 (x14 + 1)))] (Os := []) trivial hE hH (by kernel_rfl) (fun a hE => ?_)
                refine wpFrom_end (by kernel_rfl) ?_
                have hH := hH.drop (fun _ _ _ => rfl)
                refine Exit.then_normal ?_
                exact ih19 _ _ _ _ _ h _ _ _ v11 hle (hE.subC (by kernel_rfl)) hH hx17 hret18
            · replace h := ifF hc h
              refine wp_seq_k (fun K hK56 => ?_)
              refine wp_region_from ?_
              refine segO 4 [.bx 0 K97 x24] [(84, .kv .bool (x24.1 == 5))] (Os := [_]) ⟨(rfl : (LS.box b25 K97 x24 :: LS.tk v11 9 16 .str l12 :: Ls)[0]? = some (LS.box b25 K97 x24)), trivial⟩ hE hH (by kernel_rfl) (fun a hE => ?_)
              refine wpFrom_end (by kernel_rfl) ?_
              refine Exit.then_normal (hK56 _ _ ?_)
              refine condE (b := x24.1 == 5) hE (by kernel_rfl) (fun hc => ?_) (fun hc => ?_)
              · replace h := ifT hc h
                refine wp_seq_k (fun K hK57 => ?_)
                refine wp_region_from ?_
                refine segO 3 [.bx 0 K97 x24] [(88, .kv (.ptr 128) r3.1.1), (90, .kv .i x24.2.2.1)] (Os := [_]) ⟨(rfl : (LS.box b25 K97 x24 :: LS.tk v11 9 16 .str l12 :: Ls)[0]? = some (LS.box b25 K97 x24)), trivial⟩ hE hH (by kernel_rfl) (fun a hE => ?_)
                obtain ⟨r58, hr58, h⟩ := bs h
                refine stepCall (d := (some 91)) (f57_ok hr58) hE hH (NoHole.cons (fun _ _ _ => rfl) (NoHole.cons (fun _ _ _ => rfl) hN)) (by kernel_rfl) (by kernel_rfl) trivial (fun a w G hl19 hE hH => ?_)
                have hle := Gh.le_trans hle hl19
                refine segO 1 [] [(92, .kv .bool (r58.1 != 0))] (Os := []) trivial hE hH (by kernel_rfl) (fun a hE => ?_)
                refine wpFrom_end (by kernel_rfl) ?_
                refine Exit.then_normal (hK57 _ _ ?_)
                refine condE (b := r58.1 != 0) hE (by kernel_rfl) (fun hc => ?_) (fun hc => ?_)
                · replace h := ifT hc h
                  refine wp_seq_k (fun K hK59 => ?_)
                  refine wp_region_from ?_
                  refine segO 4 [] [(93, .kv (.ptr 128) r3.1.1), (94, .tl v11 .str l12), (95, .kv .i x13), (96, .kv (.ptr 128) r3.1.1)] (Os := []) trivial hE hH (by kernel_rfl) (fun a hE => ?_)
                  obtain ⟨r60, hr60, h⟩ := bs h
                  refine stepCall (d := (some 97)) (f60_ok hr60) hE hH (NoHole.cons (fun _ _ _ => rfl) (NoHole.cons (fun _ _ _ => rfl) hN)) (by kernel_rfl) (by kernel_rfl) trivial (fun a w G hl20 hE hH => ?_)
                  have hle := Gh.le_trans hle hl20
                  refine segO 4 [] [(4, .kv (.ptr 128) r3.1.1), (5, .tl v11 .str l12), (6, .kv .i (if r60 > x13 then r60 else x13))] (Os := []) trivial hE hH (by kernel_rfl) (fun a hE => ?_)
                  refine wpFrom_end (by kernel_rfl) ?_
                  refine Exit.then_normal (hK59 _ _ ?_)
                  refine wp_ret ?_
                  refine Exit.in_ret ?_
                  refine Exit.then_ret ?_
                  refine Exit.in_ret ?_
                  refine Exit.then_ret ?_
                  refine Exit.then_ret ?_
                  have hH := hH.drop (fun _ _ _ => rfl)
                  have hH := hH.drop (fun _ _ _ => rfl)
                  cases h
                  exact hret18 _ rfl _ _ (ret3 rfl hE hle hH (by kernel_rfl))
                · replace h := ifF hc h
                  refine wp_skip ?_
                  refine Exit.in_normal ?_
                  refine Exit.then_normal (hK26 _ _ ?_)
                  refine wp_region_from ?_
                  refine segO 2 [] [(99, .kv .i x13), (100, .kv (.ptr 128) r3.1.1)] (Os := []) trivial hE hH (by kernel_rfl) (fun a hE => ?_)
                  obtain ⟨r61, hr61, h⟩ := bs h
                  refine stepCall (d := (some 101)) (f60_ok hr61) hE hH (NoHole.cons (fun _ _ _ => rfl) (NoHole.cons (fun _ _ _ => rfl) hN)) (by kernel_rfl) (by kernel_rfl) trivial (fun a w G hl21 hE hH => ?_)
                  have hle := Gh.le_trans hle hl21
                  refine segO 2 [] [(10, .kv .i (if r61 > x13 then r61 else x13))] (Os := []) trivial hE hH (by kernel_rfl) (fun a hE => ?_)
                  refine wpFrom_end (by kernel_rfl) ?_
                  refine Exit.in_normal ?_
                  refine Exit.then_normal (hK22 _ _ ?_)
                  refine wp_region_from ?_
                  refine segO 3 [] [(11, .kv .i (IntKind.wrap .i64 (x14 + 1)))] (Os := []) trivial hE hH (by kernel_rfl) (fun a hE => ?_)
                  refine wpFrom_end (by kernel_rfl) ?_
                  have hH := hH.drop (fun _ _ _ => rfl)
                  refine Exit.then_normal ?_
                  exact ih19 _ _ _ _ _ h _ _ _ v11 hle (hE.subC (by kernel_rfl)) hH hx17 hret18
              · replace h := ifF hc h
                refine wp_skip ?_
                refine Exit.in_normal ?_
                refine Exit.then_normal (hK26 _ _ ?_)
                refine wp_region_from ?_
                refine segO 2 [] [(99, .kv .i x13), (100, .kv (.ptr 128) r3.1.1)] (Os := []) trivial hE hH (by kernel_rfl) (fun a hE => ?_)
                obtain ⟨r62, hr62, h⟩ := bs h
                refine stepCall (d := (some 101)) (f60_ok hr62) hE hH (NoHole.cons (fun _ _ _ => rfl) (NoHole.cons (fun _ _ _ => rfl) hN)) (by kernel_rfl) (by kernel_rfl) trivial (fun a w G hl22 hE hH => ?_)
                have hle := Gh.le_trans hle hl22
                refine segO 2 [] [(10, .kv .i (if r62 > x13 then r62 else x13))] (Os := []) trivial hE hH (by kernel_rfl) (fun a hE => ?_)
                refine wpFrom_end (by kernel_rfl) ?_
                refine Exit.in_normal ?_
                refine Exit.then_normal (hK22 _ _ ?_)
                refine wp_region_from ?_
                refine segO 3 [] [(11, .kv .i (IntKind.wrap .i64 (x14 + 1)))] (Os := []) trivial hE hH (by kernel_rfl) (fun a hE => ?_)
                refine wpFrom_end (by kernel_rfl) ?_
                have hH := hH.drop (fun _ _ _ => rfl)
                refine Exit.then_normal ?_
                exact ih19 _ _ _ _ _ h _ _ _ v11 hle (hE.subC (by kernel_rfl)) hH hx17 hret18
        · replace h := ifN hc h
          have hE := hE.setB 40 (by kernel_rfl) (bf hc)
          refine segO 11 [] [(36, .kv .bool false)] (Os := []) trivial hE hH (by kernel_rfl) (fun a hE => ?_)
          refine wpFrom_end (by kernel_rfl) ?_
          refine Exit.then_normal (hK27 _ _ ?_)
          refine condF hE (by kernel_rfl) rfl ?_
          refine wp_seq_k (fun K hK63 => ?_)
          refine wp_region_from ?_
          refine segO 4 [.bx 0 K97 x24] [(71, .kv .bool (x24.1 == 4))] (Os := [_]) ⟨(rfl : (LS.box b25 K97 x24 :: LS.tk v11 9 16 .str l12 :: Ls)[0]? = some (LS.box b25 K97 x24)), trivial⟩ hE hH (by kernel_rfl) (fun a hE => ?_)
          refine wpFrom_end (by kernel_rfl) ?_
          refine Exit.then_normal (hK63 _ _ ?_)
          refine condE (b := x24.1 == 4) hE (by kernel_rfl) (fun hc => ?_) (fun hc => ?_)
          · replace h := ifT hc h
            refine wp_seq_k (fun K hK64 => ?_)
            refine wp_region_from ?_
            refine segO 1 [] [(75, .kv (.ptr 128) r3.1.1)] (Os := []) trivial hE hH (by kernel_rfl) (fun a hE => ?_)
            obtain ⟨r65, hr65, h⟩ := bs h
            refine stepCall (d := (some 76)) (f61_ok hr65) hE hH (NoHole.cons (fun _ _ _ => rfl) (NoHole.cons (fun _ _ _ => rfl) hN)) (by kernel_rfl) (by kernel_rfl) trivial (fun a w G hl23 hE hH => ?_)
            have hle := Gh.le_trans hle hl23
            refine segO 1 [] [(77, .kv .bool (r65.1 != 0))] (Os := []) trivial hE hH (by kernel_rfl) (fun a hE => ?_)
            refine wpFrom_end (by kernel_rfl) ?_
            refine Exit.then_normal (hK64 _ _ ?_)
            refine condE (b := r65.1 != 0) hE (by kernel_rfl) (fun hc => ?_) (fun hc => ?_)
            · replace h := ifT hc h
              refine wp_seq_k (fun K hK66 => ?_)
              refine wp_region_from ?_
              refine segO 4 [] [(78, .kv (.ptr 128) r3.1.1), (79, .tl v11 .str l12), (80, .kv .i x13), (81, .kv (.ptr 128) r3.1.1)] (Os := []) trivial hE hH (by kernel_rfl) (fun a hE => ?_)
              obtain ⟨r67, hr67, h⟩ := bs h
              refine stepCall (d := (some 82)) (f60_ok hr67) hE hH (NoHole.cons (fun _ _ _ => rfl) (NoHole.cons (fun _ _ _ => rfl) hN)) (by kernel_rfl) (by kernel_rfl) trivial (fun a w G hl24 hE hH => ?_)
              have hle := Gh.le_trans hle hl24
              refine segO 4 [] [(4, .kv (.ptr 128) r3.1.1), (5, .tl v11 .str l12), (6, .kv .i (if r67 > x13 then r67 else x13))] (Os := []) trivial hE hH (by kernel_rfl) (fun a hE => ?_)
              refine wpFrom_end (by kernel_rfl) ?_
              refine Exit.then_normal (hK66 _ _ ?_)
              refine wp_ret ?_
              refine Exit.in_ret ?_
              refine Exit.then_ret ?_
              refine Exit.in_ret ?_
              refine Exit.then_ret ?_
              refine Exit.then_ret ?_
              have hH := hH.drop (fun _ _ _ => rfl)
              have hH := hH.drop (fun _ _ _ => rfl)
              cases h
              exact hret18 _ rfl _ _ (ret3 rfl hE hle hH (by kernel_rfl))
            · replace h := ifF hc h
              refine wp_skip ?_
              refine Exit.in_normal ?_
              refine Exit.then_normal (hK26 _ _ ?_)
              refine wp_region_from ?_
              refine segO 2 [] [(99, .kv .i x13), (100, .kv (.ptr 128) r3.1.1)] (Os := []) trivial hE hH (by kernel_rfl) (fun a hE => ?_)
              obtain ⟨r68, hr68, h⟩ := bs h
              refine stepCall (d := (some 101)) (f60_ok hr68) hE hH (NoHole.cons (fun _ _ _ => rfl) (NoHole.cons (fun _ _ _ => rfl) hN)) (by kernel_rfl) (by kernel_rfl) trivial (fun a w G hl25 hE hH => ?_)
              have hle := Gh.le_trans hle hl25
              refine segO 2 [] [(10, .kv .i (if r68 > x13 then r68 else x13))] (Os := []) trivial hE hH (by kernel_rfl) (fun a hE => ?_)
              refine wpFrom_end (by kernel_rfl) ?_
              refine Exit.in_normal ?_
              refine Exit.then_normal (hK22 _ _ ?_)
              refine wp_region_from ?_
              refine segO 3 [] [(11, .kv .i (IntKind.wrap .i64 (x14 + 1)))] (Os := []) trivial hE hH (by kernel_rfl) (fun a hE => ?_)
              refine wpFrom_end (by kernel_rfl) ?_
              have hH := hH.drop (fun _ _ _ => rfl)
              refine Exit.then_normal ?_
              exact ih19 _ _ _ _ _ h _ _ _ v11 hle (hE.subC (by kernel_rfl)) hH hx17 hret18
          · replace h := ifF hc h
            refine wp_seq_k (fun K hK69 => ?_)
            refine wp_region_from ?_
            refine segO 4 [.bx 0 K97 x24] [(84, .kv .bool (x24.1 == 5))] (Os := [_]) ⟨(rfl : (LS.box b25 K97 x24 :: LS.tk v11 9 16 .str l12 :: Ls)[0]? = some (LS.box b25 K97 x24)), trivial⟩ hE hH (by kernel_rfl) (fun a hE => ?_)
            refine wpFrom_end (by kernel_rfl) ?_
            refine Exit.then_normal (hK69 _ _ ?_)
            refine condE (b := x24.1 == 5) hE (by kernel_rfl) (fun hc => ?_) (fun hc => ?_)
            · replace h := ifT hc h
              refine wp_seq_k (fun K hK70 => ?_)
              refine wp_region_from ?_
              refine segO 3 [.bx 0 K97 x24] [(88, .kv (.ptr 128) r3.1.1), (90, .kv .i x24.2.2.1)] (Os := [_]) ⟨(rfl : (LS.box b25 K97 x24 :: LS.tk v11 9 16 .str l12 :: Ls)[0]? = some (LS.box b25 K97 x24)), trivial⟩ hE hH (by kernel_rfl) (fun a hE => ?_)
              obtain ⟨r71, hr71, h⟩ := bs h
              refine stepCall (d := (some 91)) (f57_ok hr71) hE hH (NoHole.cons (fun _ _ _ => rfl) (NoHole.cons (fun _ _ _ => rfl) hN)) (by kernel_rfl) (by kernel_rfl) trivial (fun a w G hl26 hE hH => ?_)
              have hle := Gh.le_trans hle hl26
              refine segO 1 [] [(92, .kv .bool (r71.1 != 0))] (Os := []) trivial hE hH (by kernel_rfl) (fun a hE => ?_)
              refine wpFrom_end (by kernel_rfl) ?_
              refine Exit.then_normal (hK70 _ _ ?_)
              refine condE (b := r71.1 != 0) hE (by kernel_rfl) (fun hc => ?_) (fun hc => ?_)
              · replace h := ifT hc h
                refine wp_seq_k (fun K hK72 => ?_)
                refine wp_region_from ?_
                refine segO 4 [] [(93, .kv (.ptr 128) r3.1.1), (94, .tl v11 .str l12), (95, .kv .i x13), (96, .kv (.ptr 128) r3.1.1)] (Os := []) trivial hE hH (by kernel_rfl) (fun a hE => ?_)
                obtain ⟨r73, hr73, h⟩ := bs h
                refine stepCall (d := (some 97)) (f60_ok hr73) hE hH (NoHole.cons (fun _ _ _ => rfl) (NoHole.cons (fun _ _ _ => rfl) hN)) (by kernel_rfl) (by kernel_rfl) trivial (fun a w G hl27 hE hH => ?_)
                have hle := Gh.le_trans hle hl27
                refine segO 4 [] [(4, .kv (.ptr 128) r3.1.1), (5, .tl v11 .str l12), (6, .kv .i (if r73 > x13 then r73 else x13))] (Os := []) trivial hE hH (by kernel_rfl) (fun a hE => ?_)
                refine wpFrom_end (by kernel_rfl) ?_
                refine Exit.then_normal (hK72 _ _ ?_)
                refine wp_ret ?_
                refine Exit.in_ret ?_
                refine Exit.then_ret ?_
                refine Exit.in_ret ?_
                refine Exit.then_ret ?_
                refine Exit.then_ret ?_
                have hH := hH.drop (fun _ _ _ => rfl)
                have hH := hH.drop (fun _ _ _ => rfl)
                cases h
                exact hret18 _ rfl _ _ (ret3 rfl hE hle hH (by kernel_rfl))
              · replace h := ifF hc h
                refine wp_skip ?_
                refine Exit.in_normal ?_
                refine Exit.then_normal (hK26 _ _ ?_)
                refine wp_region_from ?_
                refine segO 2 [] [(99, .kv .i x13), (100, .kv (.ptr 128) r3.1.1)] (Os := []) trivial hE hH (by kernel_rfl) (fun a hE => ?_)
                obtain ⟨r74, hr74, h⟩ := bs h
                refine stepCall (d := (some 101)) (f60_ok hr74) hE hH (NoHole.cons (fun _ _ _ => rfl) (NoHole.cons (fun _ _ _ => rfl) hN)) (by kernel_rfl) (by kernel_rfl) trivial (fun a w G hl28 hE hH => ?_)
                have hle := Gh.le_trans hle hl28
                refine segO 2 [] [(10, .kv .i (if r74 > x13 then r74 else x13))] (Os := []) trivial hE hH (by kernel_rfl) (fun a hE => ?_)
                refine wpFrom_end (by kernel_rfl) ?_
                refine Exit.in_normal ?_
                refine Exit.then_normal (hK22 _ _ ?_)
                refine wp_region_from ?_
                refine segO 3 [] [(11, .kv .i (IntKind.wrap .i64 (x14 + 1)))] (Os := []) trivial hE hH (by kernel_rfl) (fun a hE => ?_)
                refine wpFrom_end (by kernel_rfl) ?_
                have hH := hH.drop (fun _ _ _ => rfl)
                refine Exit.then_normal ?_
                exact ih19 _ _ _ _ _ h _ _ _ v11 hle (hE.subC (by kernel_rfl)) hH hx17 hret18
            · replace h := ifF hc h
              refine wp_skip ?_
              refine Exit.in_normal ?_
              refine Exit.then_normal (hK26 _ _ ?_)
              refine wp_region_from ?_
              refine segO 2 [] [(99, .kv .i x13), (100, .kv (.ptr 128) r3.1.1)] (Os := []) trivial hE hH (by kernel_rfl) (fun a hE => ?_)
              obtain ⟨r75, hr75, h⟩ := bs h
              refine stepCall (d := (some 101)) (f60_ok hr75) hE hH (NoHole.cons (fun _ _ _ => rfl) (NoHole.cons (fun _ _ _ => rfl) hN)) (by kernel_rfl) (by kernel_rfl) trivial (fun a w G hl29 hE hH => ?_)
              have hle := Gh.le_trans hle hl29
              refine segO 2 [] [(10, .kv .i (if r75 > x13 then r75 else x13))] (Os := []) trivial hE hH (by kernel_rfl) (fun a hE => ?_)
              refine wpFrom_end (by kernel_rfl) ?_
              refine Exit.in_normal ?_
              refine Exit.then_normal (hK22 _ _ ?_)
              refine wp_region_from ?_
              refine segO 3 [] [(11, .kv .i (IntKind.wrap .i64 (x14 + 1)))] (Os := []) trivial hE hH (by kernel_rfl) (fun a hE => ?_)
              refine wpFrom_end (by kernel_rfl) ?_
              have hH := hH.drop (fun _ _ _ => rfl)
              refine Exit.then_normal ?_
              exact ih19 _ _ _ _ _ h _ _ _ v11 hle (hE.subC (by kernel_rfl)) hH hx17 hret18
      · replace h := ifF hc h
        refine wp_exit ?_
        refine Exit.then_exit ?_
        refine Exit.then_exit ?_
        cases h
        exact hx17 _ rfl _ _ _ v11 hle (hE.subC (by kernel_rfl)) hH
    refine key _ _ _ _ _ hrr77 _ _ _ (.slice none 0 0) hle (hE.subC (by kernel_rfl)) hH ?_ ?_
    · intro z76 hz a w G v11 hle hE hH
      subst hz
      rw [hQ]
      dsimp only at h
      refine Exit.in_eq ?_
      refine Exit.then_normal (hK9 _ _ ?_)
      refine wp_seq_k (fun K hK78 => ?_)
      refine wp_region_from ?_
      refine segO 6 [] [(4, .kv (.ptr 128) r3.1.1), (5, .tl v11 .str z76.1), (6, .kv .i z76.2.1)] (Os := []) trivial hE hH (by kernel_rfl) (fun a hE => ?_)
      refine wpFrom_end (by kernel_rfl) ?_
      refine Exit.then_normal (hK78 _ _ ?_)
      refine wp_ret ?_
      have hH := hH.drop (fun _ _ _ => rfl)
      cases h
      exact ret3 rfl hE hle hH (by kernel_rfl)
    · intro yy hz a w hp
      subst hz
      dsimp only at h
      cases h
      rw [hQ]
      refine Exit.in_ret ?_
      refine Exit.then_ret ?_
      exact hp

def f56_l0 (p0 : Option Nat) (σ : St) (l7 : List (List UInt8)) (x8 : Int) : Option (Sum ((List (List UInt8)) × Int) (List (List UInt8))) :=
  f55 p0 σ >>= fun r15 =>
  if (decide (x8 < r15)) = true then
  f58 p0 x8 σ >>= fun r18 =>
  if (r18.2 != 0) = true then
  some (.inr [])
  else
  if (l7.length + 1) * 16 ≤ 140737488355328 then
  f56_l0 p0 σ (l7 ++ [r18.1]) (IntKind.wrap .i64 (x8 + 1))
  else none
  else
  some (.inl (l7, x8))
  partial_fixpoint

def f56 (p0 : Option Nat) (σ : St) : Option (List (List UInt8)) :=
  f54 p0 σ >>= fun r5 =>
  f56_l0 p0 σ [] r5 >>= fun rr25 => (match rr25 with
  | .inr yy => some yy
  | .inl z24 =>
  some z24.1)

theorem f56_ok {p0 : Option Nat} {σ : St} {p : List (List UInt8)} (h : f56 p0 σ = some p) : Spec Try.prog 56 [.kv (.ptr 128) p0] (tabs σ) (.kv (.list .str) p) (tabs σ) := by
  refine Spec.intro Try.func56 (by kernel_rfl) rfl (by kernel_rfl) (fun a w G0 Ls hE hH hN => ?_)
  have hle : G0.le G0 := Gh.le_refl G0
  unfold f56 at h
  refine wp_seq_k (fun K hK1 => ?_)
  refine wp_region_from ?_
  refine segO 1 [] [(2, .val (.slice none 0 0))] (Os := []) trivial hE hH (by kernel_rfl) (fun a hE => ?_)
  refine wpFrom_end (by kernel_rfl) ?_
  refine Exit.then_normal (hK1 _ _ ?_)
  refine wp_seq_k (fun K hK2 => ?_)
  refine wp_region_from ?_
  refine segO 1 [] [(3, .val (.slice none 0 0))] (Os := []) trivial hE hH (by kernel_rfl) (fun a hE => ?_)
  refine wpFrom_end (by kernel_rfl) ?_
  refine Exit.then_normal (hK2 _ _ ?_)
  refine wp_seq_k (fun K hK3 => ?_)
  refine wp_seq_k (fun K hK4 => ?_)
  refine wp_region_from ?_
  refine segO 1 [] [(7, .kv (.ptr 128) p0)] (Os := []) trivial hE hH (by kernel_rfl) (fun a hE => ?_)
  obtain ⟨r5, hr5, h⟩ := bs h
  refine stepCall (d := (some 8)) (f54_ok hr5) hE hH hN (by kernel_rfl) (by kernel_rfl) trivial (fun a w G hl1 hE hH => ?_)
  have hle := Gh.le_trans hle hl1
  refine segO 1 [] [(4, .kv .i r5)] (Os := []) trivial hE hH (by kernel_rfl) (fun a hE => ?_)
  refine wpFrom_end (by kernel_rfl) ?_
  refine Exit.then_normal (hK4 _ _ ?_)
  refine wp_block ?_
  have hE := hE.nilTl 3 .str (by kernel_rfl)
  have hH := hH.nilTk 9 16 .str
  obtain ⟨rr25, hrr25, h⟩ := bs h
  refine loop_intro (fun Q9 c hQ hc => ?_)
  have key : ∀ (l7 : List (List UInt8)) (x8 : Int) (rr : Sum ((List (List UInt8)) × Int) (List (List UInt8))), f56_l0 p0 σ l7 x8 = some rr → ∀ (a : Act) (w : World) (G : Gh) (v6 : Value), G0.le G → EnvR G 28 a [(0, .kv (.ptr 128) p0), (2, .val (.slice none 0 0)), (3, .tl v6 .str l7), (4, .kv .i x8)] → Holds w G (tabs σ) (LS.tk v6 9 16 .str l7 :: Ls) → (∀ z24 : (List (List UInt8)) × Int, rr = .inl z24 → ∀ (a : Act) (w : World) (G : Gh) (v6 : Value), G0.le G → EnvR G 28 a [(0, .kv (.ptr 128) p0), (2, .val (.slice none 0 0)), (3, .tl v6 .str z24.1), (4, .kv .i z24.2)] → Holds w G (tabs σ) (LS.tk v6 9 16 .str z24.1 :: Ls) → Q9 (.exit 0) a w) → (∀ yy : List (List UInt8), rr = .inr yy → ∀ (a : Act) (w : World), PostB Try.prog Try.f56 G0 (.kv (.list .str) yy) (tabs σ) Ls .ret a w → Q9 .ret a w) → Rnd Try.prog c Q9 a w := by
    refine f56_l0.partial_correctness p0 σ _ ?_
    intro self ih12 l7 x8 rr h a w G v6 hle hE hH hx10 hret11
    refine rnd_step' hc ?_
    refine wp_seq_k (fun K hK13 => ?_)
    refine wp_seq_k (fun K hK14 => ?_)
    refine wp_region_from ?_
    refine segO 2 [] [(9, .kv .i x8), (10, .kv (.ptr 128) p0)] (Os := []) trivial hE hH (by kernel_rfl) (fun a hE => ?_)
    obtain ⟨r15, hr15, h⟩ := bs h
    refine stepCall (d := (some 11)) (f55_ok hr15) hE hH (NoHole.cons (fun _ _ _ => rfl) hN) (by kernel_rfl) (by kernel_rfl) trivial (fun a w G hl2 hE hH => ?_)
    have hle := Gh.le_trans hle hl2
    refine segO 1 [] [(12, .kv .bool (decide (x8 < r15)))] (Os := []) trivial hE hH (by kernel_rfl) (fun a hE => ?_)
    refine wpFrom_end (by kernel_rfl) ?_
    refine Exit.then_normal (hK14 _ _ ?_)
    refine condE (b := decide (x8 < r15)) hE (by kernel_rfl) (fun hc => ?_) (fun hc => ?_)
    · replace h := ifT hc h
      refine wp_skip ?_
      refine Exit.then_normal (hK13 _ _ ?_)
      refine wp_seq_k (fun K hK16 => ?_)
      refine wp_block ?_
      refine wp_seq_k (fun K hK17 => ?_)
      refine wp_region_from ?_
      refine segO 2 [] [(16, .kv (.ptr 128) p0), (17, .kv .i x8)] (Os := []) trivial hE hH (by kernel_rfl) (fun a hE => ?_)
      obtain ⟨r18, hr18, h⟩ := bs h
      refine stepCall (d := (some 18)) (f58_ok hr18) hE hH (NoHole.cons (fun _ _ _ => rfl) hN) (by kernel_rfl) (by kernel_rfl) trivial (fun a w G hl3 hE hH => ?_)
      have hle := Gh.le_trans hle hl3
      refine segO 5 [] [(5, .kv .str r18.1), (6, .kv .i r18.2)] (Os := []) trivial hE hH (by kernel_rfl) (fun a hE => ?_)
      refine wpFrom_end (by kernel_rfl) ?_
      refine Exit.then_normal (hK17 _ _ ?_)
      refine wp_seq_k (fun K hK19 => ?_)
      refine wp_seq_k (fun K hK20 => ?_)
      refine wp_region_from ?_
      refine segO 2 [] [(22, .kv .bool (r18.2 != 0))] (Os := []) trivial hE hH (by kernel_rfl) (fun a hE => ?_)
      refine wpFrom_end (by kernel_rfl) ?_
      refine Exit.then_normal (hK20 _ _ ?_)
      refine condE (b := r18.2 != 0) hE (by kernel_rfl) (fun hc => ?_) (fun hc => ?_)
      · replace h := ifT hc h
        refine wp_seq_k (fun K hK21 => ?_)
        refine wp_region_from ?_
        refine segO 1 [] [(2, .val (.slice none 0 0))] (Os := []) trivial hE hH (by kernel_rfl) (fun a hE => ?_)
        refine wpFrom_end (by kernel_rfl) ?_
        refine Exit.then_normal (hK21 _ _ ?_)
        refine wp_ret ?_
        refine Exit.then_ret ?_
        refine Exit.in_ret ?_
        refine Exit.then_ret ?_
        refine Exit.then_ret ?_
        have hH := hH.drop (fun _ _ _ => rfl)
        cases h
        exact hret11 _ rfl _ _ (ret1 rfl hE hle hH (by kernel_rfl))
      · replace h := ifF hc h
        refine wp_skip ?_
        refine Exit.then_normal (hK19 _ _ ?_)
        refine wp_region_from ?_
        refine segO 2 [] [(23, .tl v6 .str l7), (24, .kv .str r18.1)] (Os := []) trivial hE hH (by kernel_rfl) (fun a hE => ?_)
        refine stepBuildS (d := (some 25)) .str [r18.1] hE hH (by kernel_rfl) (by kernel_rfl) (fun a w G hl4 hE hH => ?_)
        have hle := Gh.le_trans hle hl4
        obtain ⟨q22, h⟩ := gd h
        refine stepApp (e := 0) (bt := 16) (ys := [r18.1]) (e' := 9) (d := (some 26)) 0 hE hH (by kernel_rfl) rfl (by kernel_rfl) q22 (fun v23 a w G hl5 hE hH => ?_)
        have hle := Gh.le_trans hle hl5
        refine segO 1 [] [(3, .tl v23 .str (l7 ++ [r18.1]))] (Os := []) trivial hE hH (by kernel_rfl) (fun a hE => ?_)
        refine wpFrom_end (by kernel_rfl) ?_
        refine Exit.in_normal ?_
        refine Exit.then_normal (hK16 _ _ ?_)
        refine wp_region_from ?_
        refine segO 3 [] [(4, .kv .i (IntKind.wrap .i64 (x8 + 1)))] (Os := []) trivial hE hH (by kernel_rfl) (fun a hE => ?_)
        refine wpFrom_end (by kernel_rfl) ?_
        refine Exit.then_normal ?_
        exact ih12 _ _ _ h _ _ _ v23 hle (hE.subC (by kernel_rfl)) hH hx10 hret11
    · replace h := ifF hc h
      refine wp_exit ?_
      refine Exit.then_exit ?_
      refine Exit.then_exit ?_
      cases h
      exact hx10 _ rfl _ _ _ v6 hle (hE.subC (by kernel_rfl)) hH
  refine key _ _ _ hrr25 _ _ _ (.slice none 0 0) hle (hE.subC (by kernel_rfl)) hH ?_ ?_
  · intro z24 hz a w G v6 hle hE hH
    subst hz
    rw [hQ]
    dsimp only at h
    refine Exit.in_eq ?_
    refine Exit.then_normal (hK3 _ _ ?_)
    refine wp_seq_k (fun K hK26 => ?_)
    refine wp_region_from ?_
    refine segO 2 [] [(2, .tl v6 .str z24.1)] (Os := []) trivial hE hH (by kernel_rfl) (fun a hE => ?_)
    refine wpFrom_end (by kernel_rfl) ?_
    refine Exit.then_normal (hK26 _ _ ?_)
    refine wp_ret ?_
    have hH := hH.drop (fun _ _ _ => rfl)
    cases h
    exact ret1 rfl hE hle hH (by kernel_rfl)
  · intro yy hz a w hp
    subst hz
    dsimp only at h
    cases h
    rw [hQ]
    refine Exit.in_ret ?_
    refine Exit.then_ret ?_
    exact hp

def f14 (p0 : List K97.den) (p1 : List Int) (p2 : List Int) (σ : St) : Option (Bool × St) :=
  f18 100000 σ >>= fun r3 =>
  if ((r3.1.2 != 0) || r3.1.1.isNone) = true then
  some (false, r3.2)
  else
  f48 r3.2 >>= fun r7 =>
  if (!r7.1) = true then
  some (false, r7.2)
  else
  f52 r3.1.1 p0 r7.2 >>= fun r10 =>
  f27 r3.1.1 p1 r10.2 >>= fun r12 =>
  f53 r3.1.1 [108, 111, 103] 100 r12.2 >>= fun r14 =>
  f20 r3.1.1 r14.2 >>= fun r16 =>
  f27 r3.1.1 p2 r14.2 >>= fun r18 =>
  f53 r3.1.1 [108, 111, 103] 64 r18.2 >>= fun r20 =>
  if ((r14.1.2 == 0) && (r20.1.2 == 0)) = true then
  f54 r14.1.1 r20.2 >>= fun r22 =>
  f54 r20.1.1 r20.2 >>= fun r23 =>
  if (r22 == r23) = true then
  f55 r14.1.1 r20.2 >>= fun r24 =>
  f55 r20.1.1 r20.2 >>= fun r25 =>
  if (r24 == r25) = true then
  f56 r14.1.1 r20.2 >>= fun r26 =>
  f56 r20.1.1 r20.2 >>= fun r27 =>
  f51 r26 r27 >>= fun r28 =>
  if r28 = true then
  f20 r3.1.1 r20.2 >>= fun r29 =>
  some (r29 == r16, r20.2)
  else
  some (false, r20.2)
  else
  some (false, r20.2)
  else
  some (false, r20.2)
  else
  some (false, r20.2)

theorem f14_ok {p0 : List K97.den} {p1 : List Int} {p2 : List Int} {σ : St} {p : Bool × St} (h : f14 p0 p1 p2 σ = some p) : Spec Try.prog 14 [.kv (.list K97) p0, .kv (.list .i) p1, .kv (.list .i) p2] (tabs σ) (.kv .bool p.1) (tabs p.2) := by
  refine Spec.intro Try.func14 (by kernel_rfl) rfl (by kernel_rfl) (fun a w G0 Ls hE hH hN => ?_)
  have hle : G0.le G0 := Gh.le_refl G0
  unfold f14 at h
  refine wp_seq_k (fun K hK1 => ?_)
  refine wp_region_from ?_
  refine segO 1 [] [(6, .kv .bool false)] (Os := []) trivial hE hH (by kernel_rfl) (fun a hE => ?_)
  refine wpFrom_end (by kernel_rfl) ?_
  refine Exit.then_normal (hK1 _ _ ?_)
  refine wp_seq_k (fun K hK2 => ?_)
  refine wp_region_from ?_
  obtain ⟨r3, hr3, h⟩ := bs h
  refine stepCall (d := (some 15)) (f18_ok hr3) hE hH hN (by kernel_rfl) (by kernel_rfl) trivial (fun a w G hl1 hE hH => ?_)
  have hle := Gh.le_trans hle hl1
  refine segO 5 [] [(7, .kv (.ptr 105) r3.1.1), (8, .kv .i r3.1.2)] (Os := []) trivial hE hH (by kernel_rfl) (fun a hE => ?_)
  refine wpFrom_end (by kernel_rfl) ?_
  refine Exit.then_normal (hK2 _ _ ?_)
  refine wp_seq_k (fun K hK4 => ?_)
  refine wp_seq_k (fun K hK5 => ?_)
  refine wp_region_from ?_
  refine segO 7 [] [(24, .kv .bool ((r3.1.2 != 0) || r3.1.1.isNone))] (Os := []) trivial hE hH (by kernel_rfl) (fun a hE => ?_)
  by_cases hc : ((r3.1.2 != 0) || r3.1.1.isNone) = true
  · replace h := ifT hc h
    have hE := hE.setB 24 (by kernel_rfl) hc
    refine segO 3 [] [(27, .kv .bool true)] (Os := []) trivial hE hH (by kernel_rfl) (fun a hE => ?_)
    refine wpFrom_end (by kernel_rfl) ?_
    refine Exit.then_normal (hK5 _ _ ?_)
    refine condT hE (by kernel_rfl) rfl ?_
    refine wp_seq_k (fun K hK6 => ?_)
    refine wp_region_from ?_
    refine segO 1 [] [(6, .kv .bool false)] (Os := []) trivial hE hH (by kernel_rfl) (fun a hE => ?_)
    refine wpFrom_end (by kernel_rfl) ?_
    refine Exit.then_normal (hK6 _ _ ?_)
    refine wp_ret ?_
    refine Exit.then_ret ?_
    cases h
    exact ret1 rfl hE hle hH (by kernel_rfl)
  · replace h := ifN hc h
    have hE := hE.setB 24 (by kernel_rfl) (bf hc)
    obtain ⟨r7, hr7, h⟩ := bs h
    refine stepCall (d := (some 25)) (f48_ok hr7) hE hH hN (by kernel_rfl) (by kernel_rfl) trivial (fun a w G hl2 hE hH => ?_)
    have hle := Gh.le_trans hle hl2
    refine segO 2 [] [(27, .kv .bool (!r7.1))] (Os := []) trivial hE hH (by kernel_rfl) (fun a hE => ?_)
    refine wpFrom_end (by kernel_rfl) ?_
    refine Exit.then_normal (hK5 _ _ ?_)
    refine condE (b := !r7.1) hE (by kernel_rfl) (fun hc => ?_) (fun hc => ?_)
    · replace h := ifT hc h
      refine wp_seq_k (fun K hK8 => ?_)
      refine wp_region_from ?_
      refine segO 1 [] [(6, .kv .bool false)] (Os := []) trivial hE hH (by kernel_rfl) (fun a hE => ?_)
      refine wpFrom_end (by kernel_rfl) ?_
      refine Exit.then_normal (hK8 _ _ ?_)
      refine wp_ret ?_
      refine Exit.then_ret ?_
      cases h
      exact ret1 rfl hE hle hH (by kernel_rfl)
    · replace h := ifF hc h
      refine wp_skip ?_
      refine Exit.then_normal (hK4 _ _ ?_)
      refine wp_seq_k (fun K hK9 => ?_)
      refine wp_region_from ?_
      refine segO 2 [] [(28, .kv (.ptr 105) r3.1.1), (29, .kv (.list K97) p0)] (Os := []) trivial hE hH (by kernel_rfl) (fun a hE => ?_)
      obtain ⟨r10, hr10, h⟩ := bs h
      refine stepCall (d := (some 30)) (f52_ok hr10) hE hH hN (by kernel_rfl) (by kernel_rfl) trivial (fun a w G hl3 hE hH => ?_)
      have hle := Gh.le_trans hle hl3
      refine wpFrom_end (by kernel_rfl) ?_
      refine Exit.then_normal (hK9 _ _ ?_)
      refine wp_seq_k (fun K hK11 => ?_)
      refine wp_region_from ?_
      refine segO 2 [] [(31, .kv (.ptr 105) r3.1.1), (32, .kv (.list .i) p1)] (Os := []) trivial hE hH (by kernel_rfl) (fun a hE => ?_)
      obtain ⟨r12, hr12, h⟩ := bs h
      refine stepCall (d := (some 33)) (f27_ok hr12) hE hH hN (by kernel_rfl) (by kernel_rfl) trivial (fun a w G hl4 hE hH => ?_)
      have hle := Gh.le_trans hle hl4
      refine wpFrom_end (by kernel_rfl) ?_
      refine Exit.then_normal (hK11 _ _ ?_)
      refine wp_seq_k (fun K hK13 => ?_)
      refine wp_region_from ?_
      refine segO 1 [] [(35, .kv (.ptr 105) r3.1.1)] (Os := []) trivial hE hH (by kernel_rfl) (fun a hE => ?_)
      obtain ⟨r14, hr14, h⟩ := bs h
      refine stepCall (d := (some 36)) (f53_ok hr14) hE hH hN (by kernel_rfl) (by kernel_rfl) trivial (fun a w G hl5 hE hH => ?_)
      have hle := Gh.le_trans hle hl5
      refine segO 5 [] [(9, .kv (.ptr 128) r14.1.1), (10, .kv .i r14.1.2)] (Os := []) trivial hE hH (by kernel_rfl) (fun a hE => ?_)
      refine wpFrom_end (by kernel_rfl) ?_
      refine Exit.then_normal (hK13 _ _ ?_)
      refine wp_seq_k (fun K hK15 => ?_)
      refine wp_region_from ?_
      refine segO 1 [] [(39, .kv (.ptr 105) r3.1.1)] (Os := []) trivial hE hH (by kernel_rfl) (fun a hE => ?_)
      obtain ⟨r16, hr16, h⟩ := bs h
      refine stepCall (d := (some 40)) (f20_ok hr16) hE hH hN (by kernel_rfl) (by kernel_rfl) trivial (fun a w G hl6 hE hH => ?_)
      have hle := Gh.le_trans hle hl6
      refine segO 1 [] [(11, .kv .i r16)] (Os := []) trivial hE hH (by kernel_rfl) (fun a hE => ?_)
      refine wpFrom_end (by kernel_rfl) ?_
      refine Exit.then_normal (hK15 _ _ ?_)
      refine wp_seq_k (fun K hK17 => ?_)
      refine wp_region_from ?_
      refine segO 2 [] [(41, .kv (.ptr 105) r3.1.1), (42, .kv (.list .i) p2)] (Os := []) trivial hE hH (by kernel_rfl) (fun a hE => ?_)
      obtain ⟨r18, hr18, h⟩ := bs h
      refine stepCall (d := (some 43)) (f27_ok hr18) hE hH hN (by kernel_rfl) (by kernel_rfl) trivial (fun a w G hl7 hE hH => ?_)
      have hle := Gh.le_trans hle hl7
      refine wpFrom_end (by kernel_rfl) ?_
      refine Exit.then_normal (hK17 _ _ ?_)
      refine wp_seq_k (fun K hK19 => ?_)
      refine wp_region_from ?_
      refine segO 1 [] [(45, .kv (.ptr 105) r3.1.1)] (Os := []) trivial hE hH (by kernel_rfl) (fun a hE => ?_)
      obtain ⟨r20, hr20, h⟩ := bs h
      refine stepCall (d := (some 46)) (f53_ok hr20) hE hH hN (by kernel_rfl) (by kernel_rfl) trivial (fun a w G hl8 hE hH => ?_)
      have hle := Gh.le_trans hle hl8
      refine segO 5 [] [(12, .kv (.ptr 128) r20.1.1), (13, .kv .i r20.1.2)] (Os := []) trivial hE hH (by kernel_rfl) (fun a hE => ?_)
      refine wpFrom_end (by kernel_rfl) ?_
      refine Exit.then_normal (hK19 _ _ ?_)
      refine wp_seq_k (fun K hK21 => ?_)
      refine wp_region_from ?_
      refine segO 7 [] [(55, .kv .bool ((r14.1.2 == 0) && (r20.1.2 == 0)))] (Os := []) trivial hE hH (by kernel_rfl) (fun a hE => ?_)
      by_cases hc : ((r14.1.2 == 0) && (r20.1.2 == 0)) = true
      · replace h := ifT hc h
        have hE := hE.setB 55 (by kernel_rfl) hc
        refine segO 1 [] [(56, .kv (.ptr 128) r14.1.1)] (Os := []) trivial hE hH (by kernel_rfl) (fun a hE => ?_)
        obtain ⟨r22, hr22, h⟩ := bs h
        refine stepCall (d := (some 57)) (f54_ok hr22) hE hH hN (by kernel_rfl) (by kernel_rfl) trivial (fun a w G hl9 hE hH => ?_)
        have hle := Gh.le_trans hle hl9
        refine segO 1 [] [(58, .kv (.ptr 128) r20.1.1)] (Os := []) trivial hE hH (by kernel_rfl) (fun a hE => ?_)
        obtain ⟨r23, hr23, h⟩ := bs h
        refine stepCall (d := (some 59)) (f54_ok hr23) hE hH hN (by kernel_rfl) (by kernel_rfl) trivial (fun a w G hl10 hE hH => ?_)
        have hle := Gh.le_trans hle hl10
        refine segO 3 [] [(62, .kv .bool (r22 == r23))] (Os := []) trivial hE hH (by kernel_rfl) (fun a hE => ?_)
        by_cases hc : (r22 == r23) = true
        · replace h := ifT hc h
          have hE := hE.setB 62 (by kernel_rfl) hc
          refine segO 1 [] [(63, .kv (.ptr 128) r14.1.1)] (Os := []) trivial hE hH (by kernel_rfl) (fun a hE => ?_)
          obtain ⟨r24, hr24, h⟩ := bs h
          refine stepCall (d := (some 64)) (f55_ok hr24) hE hH hN (by kernel_rfl) (by kernel_rfl) trivial (fun a w G hl11 hE hH => ?_)
          have hle := Gh.le_trans hle hl11
          refine segO 1 [] [(65, .kv (.ptr 128) r20.1.1)] (Os := []) trivial hE hH (by kernel_rfl) (fun a hE => ?_)
          obtain ⟨r25, hr25, h⟩ := bs h
          refine stepCall (d := (some 66)) (f55_ok hr25) hE hH hN (by kernel_rfl) (by kernel_rfl) trivial (fun a w G hl12 hE hH => ?_)
          have hle := Gh.le_trans hle hl12
          refine segO 3 [] [(69, .kv .bool (r24 == r25))] (Os := []) trivial hE hH (by kernel_rfl) (fun a hE => ?_)
          by_cases hc : (r24 == r25) = true
          · replace h := ifT hc h
            have hE := hE.setB 69 (by kernel_rfl) hc
            refine segO 1 [] [(70, .kv (.ptr 128) r14.1.1)] (Os := []) trivial hE hH (by kernel_rfl) (fun a hE => ?_)
            obtain ⟨r26, hr26, h⟩ := bs h
            refine stepCall (d := (some 71)) (f56_ok hr26) hE hH hN (by kernel_rfl) (by kernel_rfl) trivial (fun a w G hl13 hE hH => ?_)
            have hle := Gh.le_trans hle hl13
            refine segO 1 [] [(72, .kv (.ptr 128) r20.1.1)] (Os := []) trivial hE hH (by kernel_rfl) (fun a hE => ?_)
            obtain ⟨r27, hr27, h⟩ := bs h
            refine stepCall (d := (some 73)) (f56_ok hr27) hE hH hN (by kernel_rfl) (by kernel_rfl) trivial (fun a w G hl14 hE hH => ?_)
            have hle := Gh.le_trans hle hl14
            obtain ⟨r28, hr28, h⟩ := bs h
            refine stepCall (d := (some 74)) (f51_ok hr28) hE hH hN (by kernel_rfl) (by kernel_rfl) trivial (fun a w G hl15 hE hH => ?_)
            have hle := Gh.le_trans hle hl15
            refine segO 2 [] [(76, .kv .bool r28)] (Os := []) trivial hE hH (by kernel_rfl) (fun a hE => ?_)
            by_cases hc : r28 = true
            · replace h := ifT hc h
              have hE := hE.setB 76 (by kernel_rfl) hc
              refine segO 1 [] [(77, .kv (.ptr 105) r3.1.1)] (Os := []) trivial hE hH (by kernel_rfl) (fun a hE => ?_)
              obtain ⟨r29, hr29, h⟩ := bs h
              refine stepCall (d := (some 78)) (f20_ok hr29) hE hH hN (by kernel_rfl) (by kernel_rfl) trivial (fun a w G hl16 hE hH => ?_)
              have hle := Gh.le_trans hle hl16
              refine segO 4 [] [(6, .kv .bool (r29 == r16))] (Os := []) trivial hE hH (by kernel_rfl) (fun a hE => ?_)
              refine wpFrom_end (by kernel_rfl) ?_
              refine Exit.then_normal (hK21 _ _ ?_)
              refine wp_ret ?_
              cases h
              exact ret1 rfl hE hle hH (by kernel_rfl)
            · replace h := ifN hc h
              have hE := hE.setB 76 (by kernel_rfl) (bf hc)
              refine segO 6 [] [(6, .kv .bool false)] (Os := []) trivial hE hH (by kernel_rfl) (fun a hE => ?_)
              refine wpFrom_end (by kernel_rfl) ?_
              refine Exit.then_normal (hK21 _ _ ?_)
              refine wp_ret ?_
              cases h
              exact ret1 rfl hE hle hH (by kernel_rfl)
          · replace h := ifN hc h
            have hE := hE.setB 69 (by kernel_rfl) (bf hc)
            refine segO 13 [] [(6, .kv .bool false)] (Os := []) trivial hE hH (by kernel_rfl) (fun a hE => ?_)
            refine wpFrom_end (by kernel_rfl) ?_
            refine Exit.then_normal (hK21 _ _ ?_)
            refine wp_ret ?_
            cases h
            exact ret1 rfl hE hle hH (by kernel_rfl)
        · replace h := ifN hc h
          have hE := hE.setB 62 (by kernel_rfl) (bf hc)
          refine segO 20 [] [(6, .kv .bool false)] (Os := []) trivial hE hH (by kernel_rfl) (fun a hE => ?_)
          refine wpFrom_end (by kernel_rfl) ?_
          refine Exit.then_normal (hK21 _ _ ?_)
          refine wp_ret ?_
          cases h
          exact ret1 rfl hE hle hH (by kernel_rfl)
      · replace h := ifN hc h
        have hE := hE.setB 55 (by kernel_rfl) (bf hc)
        refine segO 27 [] [(6, .kv .bool false)] (Os := []) trivial hE hH (by kernel_rfl) (fun a hE => ?_)
        refine wpFrom_end (by kernel_rfl) ?_
        refine Exit.then_normal (hK21 _ _ ?_)
        refine wp_ret ?_
        cases h
        exact ret1 rfl hE hle hH (by kernel_rfl)
end Go.Proofs.Ytlfemhkabjafeaa.M

/- Plain law of the log, part 7: Read, all records, and a crash. -/
set_option linter.unusedVariables false
set_option linter.unusedSimpArgs false
namespace Go.Proofs.Ytlfemhkabjafeaa.M

/-- The segment's records are these ones of all. -/
def Sub (R : List (List UInt8)) (g : Sg) : Prop := ∃ a c, R = a ++ g.2 ++ c ∧ a.length = g.1

theorem Sub.le {R : List (List UInt8)} {g : Sg} (h : Sub R g) : sgN g ≤ R.length := by
  obtain ⟨a, c, rfl, e⟩ := h
  unfold sgN
  simp only [List.length_append]; omega

theorem Sub.get {R : List (List UInt8)} {g : Sg} (h : Sub R g) {i : Nat} (h1 : g.1 ≤ i) (h2 : i < sgN g) : R[i]? = g.2[i - g.1]? := by
  obtain ⟨a, c, rfl, e⟩ := h
  unfold sgN at h2
  rw [List.append_assoc, List.getElem?_append_right (by omega), e, List.getElem?_append_left (by omega)]

theorem Sub.app {R : List (List UInt8)} {g : Sg} (h : Sub R g) (x : List UInt8) : Sub (R ++ [x]) g := by
  obtain ⟨a, c, rfl, e⟩ := h
  exact ⟨a, c ++ [x], by simp, e⟩

theorem Sub.take {R : List (List UInt8)} {g : Sg} (h : Sub R g) (m : Nat) : Sub R (g.1, g.2.take m) := by
  obtain ⟨a, c, rfl, e⟩ := h
  refine ⟨a, g.2.drop m ++ c, ?_, e⟩
  simp only [List.append_assoc]
  rw [← List.append_assoc (g.2.take m), List.take_append_drop]

theorem Sub.more {R : List (List UInt8)} {segs segs' : List Sg} {x : List UInt8} (h : More segs x segs') (hR : ∀ g ∈ segs, Sub R g) (hn : nextS segs = R.length) : ∀ g ∈ segs', Sub (R ++ [x]) g := by
  cases h with
  | fresh h =>
    intro g hg
    rcases List.mem_append.1 hg with hg | hg
    · exact (hR g hg).app x
    · simp only [List.mem_cons, List.not_mem_nil, or_false] at hg
      subst hg
      exact ⟨R, [], by simp, hn.symm⟩
  | @same pre g0 x =>
    intro g hg
    rcases List.mem_append.1 hg with hg | hg
    · exact (hR g (List.mem_append.2 (.inl hg))).app x
    · simp only [List.mem_cons, List.not_mem_nil, or_false] at hg
      subst hg
      have h0 := hR g0 (by simp)
      rw [nextS_app] at hn
      obtain ⟨a, c, e1, e2⟩ := h0
      have hc : c = [] := by
        have := congrArg List.length e1
        unfold sgN at hn
        simp only [List.length_append] at this
        exact List.eq_nil_of_length_eq_zero (by omega)
      subst hc
      exact ⟨a, [], by rw [e1]; simp, e2⟩

theorem Chn.adj : ∀ {segs : List Sg} {e : Option Nat}, Chn e segs → ∀ (k : Nat) (h : k + 1 < segs.length), (segs[k + 1]'h).1 = sgN (segs[k]'(by omega))
  | [], _, _, k, h => by simp at h
  | g :: [], _, _, k, h => by simp at h
  | g :: b :: r, e, hc, 0, h => by
    obtain ⟨h1, h2, h3⟩ := hc
    exact h3.1 _ rfl
  | g :: b :: r, e, hc, k + 1, h => by
    obtain ⟨h1, h2, h3⟩ := hc
    have := Chn.adj h3 k (by simpa using h)
    simpa using this

section
variable {σ : St} {l d n0 : Nat} {most : Int} {js : List Nat} {segs : List Sg} {safe s : Nat} {A : AD} {R : List (List UInt8)}

theorem f58_loop (h : LG σ l d most js segs safe) (hg : Good segs) (hlen : segs.length ≤ 1000) {i : Nat} (h0 : firstS segs ≤ i) (hne : segs ≠ []) : ∀ (k : Nat) (hk : k < segs.length), (∀ m (hm : m < segs.length), k < m → i < (segs[m]'hm).1) →
    ∃ z, ∃ hz : z < segs.length, f58_l0 (some l) (i : Int) σ (k : Int) = some ((z : Nat) : Int) ∧ (segs[z]'hz).1 ≤ i ∧ ∀ m (hm : m < segs.length), z < m → i < (segs[m]'hm).1 := by
  have hlo := h.lo
  have hjl := All2.len h.lie
  intro k
  induction k with
  | zero =>
    intro hk hm
    have hL := All2.nth h.lie 0 (by omega) hk
    have hf : (segs[0]'hk).1 ≤ i := by
      cases segs with
      | nil => exact absurd rfl hne
      | cons a r => exact h0
    refine ⟨0, hk, ?_, hf, hm⟩
    rw [f58_l0]
    have hx : ix (js.map some) ((0 : Nat) : Int) = some (some (js[0]'(by omega))) := by
      rw [ix_at (by simp; omega)]; simp
    simp only [hlo, Option.bind_eq_bind, Option.bind_some]
    rw [hx]
    simp only [Option.bind_some, hL]
    rw [if_neg (by simp; omega)]
  | succ k ih =>
    intro hk hm
    have hL := All2.nth h.lie (k + 1) (by omega) hk
    rw [f58_l0]
    have hx : ix (js.map some) (((k + 1 : Nat) : Nat) : Int) = some (some (js[k + 1]'(by omega))) := by
      rw [ix_at (by simp; omega)]; simp
    simp only [hlo, Option.bind_eq_bind, Option.bind_some]
    rw [hx]
    simp only [Option.bind_some, hL]
    by_cases c : (segs[k + 1]'hk).1 ≤ i
    · rw [if_neg (by simp; omega)]
      exact ⟨k + 1, hk, rfl, c, hm⟩
    · rw [if_pos (by simp; omega)]
      have hw : IntKind.wrap .i64 (((k + 1 : Nat) : Int) - 1) = (k : Int) := by rw [wrap_id (by omega) (by omega)]; omega
      rw [hw]
      refine ih (by omega) (fun m hm2 hlt => ?_)
      by_cases e : m = k + 1
      · subst e; omega
      · exact hm m hm2 (by omega)

theorem f58_eq (h : LG σ l d most js segs safe) (hg : Good segs) (hlen : segs.length ≤ 1000) (hR : ∀ g ∈ segs, Sub R g) {i : Nat} (h1 : firstS segs ≤ i) (h2 : i < nextS segs) : ∃ y, R[i]? = some y ∧ f58 (some l) (i : Int) σ = some (y, 0) := by
  have hne : segs ≠ [] := by rintro rfl; simp [nextS] at h2
  have hpos : 0 < segs.length := List.length_pos_iff.2 hne
  have hjl := All2.len h.lie
  have hlo := h.lo
  obtain ⟨z, hz, e1, e2, e3⟩ := f58_loop h hg hlen h1 hne (segs.length - 1) (by omega) (fun m hm hlt => by omega)
  have hlt : i < sgN (segs[z]'hz) := by
    by_cases c : z + 1 < segs.length
    · rw [← hg.chain.adj z c]
      exact e3 (z + 1) c (by omega)
    · rcases List.eq_nil_or_concat segs with h0 | ⟨pre, g, h0⟩
      · exact absurd h0 hne
      · rw [List.concat_eq_append] at h0
        subst h0
        rw [nextS_app] at h2
        have hz2 : z = pre.length := by simp at hz c; omega
        subst hz2
        simpa using h2
  have hS := hR (segs[z]'hz) (List.getElem_mem hz)
  have hget := hS.get e2 hlt
  have hidx : i - (segs[z]'hz).1 < (segs[z]'hz).2.length := by unfold sgN at hlt; omega
  rw [List.getElem?_eq_getElem hidx] at hget
  refine ⟨_, hget, ?_⟩
  have hL := All2.nth h.lie z (by omega) hz
  have ht := hg.top _ (List.getElem_mem hz)
  have hnx := nextS_le hg
  have hx : ix (js.map some) ((z : Nat) : Int) = some (some (js[z]'(by omega))) := by
    rw [ix_at (by simp; omega)]; simp
  have hw1 : IntKind.wrap .i64 ((((js.map some).length : Nat) : Int) - 1) = ((segs.length - 1 : Nat) : Int) := by
    rw [List.length_map, hjl, wrap_id (by omega) (by omega)]; omega
  have hw2 : IntKind.wrap .i64 ((i : Int) - ((segs[z]'hz).1 : Int)) = ((i - (segs[z]'hz).1 : Nat) : Int) := by rw [wrap_id (by omega) (by omega)]; omega
  unfold f58
  simp only [Option.isNone_some, Bool.false_eq_true, if_false, f54_eq h, f55_eq h hg (by omega), hlo, Option.bind_eq_bind, Option.bind_some]
  rw [if_neg (by simp; omega), if_neg (by simp; omega), hw1, e1]
  simp only [Option.bind_some]
  rw [hx]
  simp only [Option.bind_some, hL]
  rw [hw2, ix_at hidx]
  rfl

theorem f58_low (h : LG σ l d most js segs safe) {i : Int} (hi : i < (firstS segs : Int)) : f58 (some l) i σ = some ([], 13) := by
  unfold f58
  simp only [Option.isNone_some, Bool.false_eq_true, if_false, f54_eq h, Option.bind_eq_bind, Option.bind_some]
  rw [if_pos (by simpa using hi)]

theorem firstS_le (hg : Good segs) : firstS segs ≤ nextS segs := by
  cases segs with
  | nil => exact Nat.le_refl _
  | cons a r =>
    rcases List.eq_nil_or_concat (a :: r) with h0 | ⟨pre, g, h0⟩
    · simp at h0
    · rw [List.concat_eq_append] at h0
      rw [h0, nextS_app]
      have hr := hg.chain.rise
      rw [h0] at hr
      show firstS (pre ++ [g]) ≤ sgN g
      cases pre with
      | nil => show g.1 ≤ sgN g; unfold sgN; omega
      | cons b q =>
        have := (List.pairwise_append.1 hr).2.2 b (by simp) g (by simp)
        show b.1 ≤ sgN g
        unfold sgN; omega

theorem f58_high (h : LG σ l d most js segs safe) (hg : Good segs) (hlen : segs.length ≤ 1000) : f58 (some l) ((nextS segs : Nat) : Int) σ = some ([], 8) := by
  have := firstS_le hg
  unfold f58
  simp only [Option.isNone_some, Bool.false_eq_true, if_false, f54_eq h, f55_eq h hg (by omega), Option.bind_eq_bind, Option.bind_some]
  rw [if_neg (by simp; omega), if_pos (by simp)]

/-! ### All records -/
theorem f56_loop (h : LG σ l d most js segs safe) (hg : Good segs) (hlen : segs.length ≤ 1000) (hR : ∀ g ∈ segs, Sub R g) (hn : nextS segs ≤ R.length) : ∀ (m i : Nat) (acc : List (List UInt8)), i + m = nextS segs → firstS segs ≤ i → acc.length ≤ i →
    ∃ z, f56_l0 (some l) σ acc (i : Int) = some (.inl (acc ++ (R.take (nextS segs)).drop i, z))
  | 0, i, acc, hi, hf, ha => by
    rw [f56_l0]
    have e : i = nextS segs := by omega
    subst e
    refine ⟨((nextS segs : Nat) : Int), ?_⟩
    simp only [f55_eq h hg (by omega), Option.bind_eq_bind, Option.bind_some]
    rw [if_neg (by simp)]
    have : (R.take (nextS segs)).drop (nextS segs) = [] := List.drop_of_length_le (by rw [List.length_take]; omega)
    rw [this, List.append_nil]
  | m + 1, i, acc, hi, hf, ha => by
    have hnx := nextS_le hg
    obtain ⟨y, e1, e2⟩ := f58_eq h hg hlen hR (i := i) hf (by omega)
    have hw : IntKind.wrap .i64 ((i : Int) + 1) = ((i + 1 : Nat) : Int) := by rw [wrap_id (by omega) (by omega)]; omega
    obtain ⟨z, ih⟩ := f56_loop h hg hlen hR hn m (i + 1) (acc ++ [y]) (by omega) (by omega) (by simp; omega)
    refine ⟨z, ?_⟩
    rw [f56_l0]
    simp only [f55_eq h hg (by omega), Option.bind_eq_bind, Option.bind_some]
    rw [if_pos (by simp; omega), e2]
    simp only [Option.bind_some]
    rw [if_neg (by simp), if_pos (by omega), hw, ih]
    have hlt : i < (R.take (nextS segs)).length := by rw [List.length_take]; omega
    have hd : (R.take (nextS segs)).drop i = y :: (R.take (nextS segs)).drop (i + 1) := by
      rw [List.drop_eq_getElem_cons hlt]
      congr 1
      have : (R.take (nextS segs))[i]? = some y := by rw [List.getElem?_take_of_lt (by omega)]; exact e1
      rw [List.getElem?_eq_getElem hlt] at this
      simpa using this
    rw [hd]
    simp

theorem f56_eq (h : LG σ l d most js segs safe) (hg : Good segs) (hlen : segs.length ≤ 1000) (hR : ∀ g ∈ segs, Sub R g) (hn : nextS segs ≤ R.length) : f56 (some l) σ = some ((R.take (nextS segs)).drop (firstS segs)) := by
  have hf := firstS_le hg
  obtain ⟨z, e⟩ := f56_loop h hg hlen hR hn (nextS segs - firstS segs) (firstS segs) [] (by omega) (Nat.le_refl _) (by simp)
  unfold f56
  simp only [f54_eq h, Option.bind_eq_bind, Option.bind_some]
  rw [e]
  rfl

/-! ### A crash -/
def crash1 (f : FR) (keep : List Int) : FR := (f.1, f.2.1 ++ f.2.2.1.take (keepN keep f.2.2.1.length), [], ())

theorem crashL_empty : ∀ (L : List FR) (keep : List Int), (∀ f ∈ L, f.2.2.1 = []) → crashL L keep = L
  | [], _, _ => rfl
  | f :: r, keep, h => by
    have he := h f List.mem_cons_self
    unfold crashL
    have e : ((f.1, f.2.1, [], ()) : FR) = f := by rw [← he]
    have hm : f.2.2.1.isEmpty = true := by rw [he]; rfl
    rw [hm, cond_true, e, crashL_empty r keep (fun x hx => h x (List.mem_cons_of_mem _ hx))]

theorem crashL_one : ∀ (a : List FR) (f : FR) (b : List FR) (keep : List Int), (∀ x ∈ a, x.2.2.1 = []) → (∀ x ∈ b, x.2.2.1 = []) → crashL (a ++ f :: b) keep = a ++ crash1 f keep :: b
  | [], f, b, keep, ha, hb => by
    rw [List.nil_append, List.nil_append]
    unfold crashL
    cases hm : f.2.2.1 with
    | nil =>
      rw [List.isEmpty_nil, cond_true, crashL_empty b keep hb]
      unfold crash1
      rw [hm]; simp
    | cons c t =>
      rw [List.isEmpty_cons, cond_false, crashL_empty b keep.tail hb]
      unfold crash1
      rw [hm]
  | y :: a, f, b, keep, ha, hb => by
    have he := ha y List.mem_cons_self
    have ih := crashL_one a f b keep (fun x hx => ha x (List.mem_cons_of_mem _ hx)) hb
    rw [List.cons_append, List.cons_append]
    unfold crashL
    have e : ((y.1, y.2.1, [], ()) : FR) = y := by rw [← he]
    have hm : y.2.2.1.isEmpty = true := by rw [he]; rfl
    rw [hm, cond_true, e, ih]

theorem crash_perm {L : List FR} {pre : List Sg} {f : FR} (h : L.Perm (pre.map lgA ++ [f])) (keep : List Int) : (crashL L keep).Perm (pre.map lgA ++ [crash1 f keep]) := by
  have hm : f ∈ L := h.mem_iff.2 (by simp)
  obtain ⟨a, b, rfl⟩ := List.append_of_mem hm
  have hp : (a ++ b).Perm (pre.map lgA) := by
    have h1 : (f :: (a ++ b)).Perm (f :: pre.map lgA) := (List.perm_middle.symm.trans h).trans (List.perm_append_comm (l₂ := [f]))
    exact List.Perm.cons_inv h1
  have hall : ∀ x ∈ a ++ b, x.2.2.1 = [] := by
    intro x hx
    obtain ⟨g, hg, rfl⟩ := List.mem_map.1 (hp.mem_iff.1 hx)
    rfl
  rw [crashL_one a f b keep (fun x hx => hall x (List.mem_append.2 (.inl hx))) (fun x hx => hall x (List.mem_append.2 (.inr hx)))]
  refine List.perm_middle.trans ?_
  exact (List.Perm.cons _ hp).trans (List.perm_append_comm (l₁ := [crash1 f keep]))

/-- What a crash leaves of the last file. -/
theorem crash_last {g : Sg} (hx : ∀ x ∈ g.2, OkR x) (hs : s ≤ g.2.length) (keep : List Int) : ∃ m t, m ≤ g.2.length - s ∧ (segB (g.1 + s) (g.2.drop s)).take (keepN keep (segB (g.1 + s) (g.2.drop s)).length) = segB (g.1 + s) ((g.2.drop s).take m) ++ t ∧ crash1 (lgF g s) keep = tornF (g.1, g.2.take (s + m)) t ∧ Torn (sgN (g.1, g.2.take (s + m))) t := by
  obtain ⟨m, t, h1, h2, h3⟩ := segB_take (g.1 + s) (g.2.drop s) (keepN keep (segB (g.1 + s) (g.2.drop s)).length) (fun x hxx => hx x (List.mem_of_mem_drop hxx))
  rw [List.length_drop] at h1
  refine ⟨m, t, h1, h2, ?_, ?_⟩
  · unfold crash1 lgF tornF
    simp only []
    rw [h2]
    have e : sgB (g.1, g.2.take (s + m)) = segB g.1 (g.2.take s) ++ segB (g.1 + s) ((g.2.drop s).take m) := by
      unfold sgB
      simp only []
      rw [List.take_add, segB_app]
      have : (g.2.take s).length = s := by rw [List.length_take]; omega
      rw [this]
    rw [e, List.append_assoc]
  · have : sgN (g.1, g.2.take (s + m)) = g.1 + s + m := by
      unfold sgN
      simp only [List.length_take]; omega
    rw [this]; exact h3

theorem Good.cut {pre : List Sg} {g : Sg} (h : Good (pre ++ [g])) (m : Nat) : Good (pre ++ [(g.1, g.2.take m)]) := by
  refine ⟨h.chain.last rfl, ?_, ?_⟩
  · intro a ha
    rcases List.mem_append.1 ha with ha | ha
    · exact h.recs a (List.mem_append.2 (.inl ha))
    · simp only [List.mem_cons, List.not_mem_nil, or_false] at ha
      subst ha
      exact fun x hx => h.recs g (by simp) x (List.mem_of_mem_take hx)
  · intro a ha
    rcases List.mem_append.1 ha with ha | ha
    · exact h.top a (List.mem_append.2 (.inl ha))
    · simp only [List.mem_cons, List.not_mem_nil, or_false] at ha
      subst ha
      have := h.top g (by simp)
      unfold sgN at *
      simp only [List.length_take]; omega

/-- What is there at a crash. -/
structure CS (σ : St) (d n0 : Nat) (A : AD) (segs : List Sg) (s : Nat) : Prop where
  dv : DV σ d n0 A
  ok : OkA A
  dl : DLs A.2.1 segs s
  good : Good segs
  len : segs.length ≤ 900

/-- A crash, and Open. -/
theorem crash_open (h : CS σ d n0 A segs s) (keep : List Int) (h1 : 64 ≤ most) (h2 : most ≤ 65536) :
    ∃ σ1 σ2 B js' segs', f27 (some d) keep σ = some (0, σ1) ∧ f53 (some d) nmL most σ1 = some ((some σ1.t128.length, 0), σ2) ∧ Fw σ σ2 d n0 ∧ Ex σ σ2 σ1.t128.length ∧ σ1.t128.length = σ.t128.length ∧ B.1 = A.1 ∧ armA0 B = 0 ∧ downA B = false ∧
      WS σ2 σ1.t128.length d n0 most B js' segs' (nextS segs') (lastLen segs') ∧ DV σ1 d n0 (crashA A keep) ∧
      ((segs = [] ∧ segs' = []) ∨ ∃ pre g m, segs = pre ++ [g] ∧ segs' = pre ++ [(g.1, g.2.take (s + m))] ∧ m ≤ g.2.length - s ∧ s ≤ g.2.length ∧
        ∃ t, (segB (g.1 + s) (g.2.drop s)).take (keepN keep (segB (g.1 + s) (g.2.drop s)).length) = segB (g.1 + s) ((g.2.drop s).take m) ++ t) := by
  obtain ⟨σ1, g1, g2, g3⟩ := f27_eq h.dv h.ok keep
  have hok := h.ok.crash keep
  have e128 : σ1.t128 = σ.t128 := congrArg (fun x => x.2.1) g3.oth
  rcases List.eq_nil_or_concat segs with h0 | ⟨pre, g, h0⟩
  · have hdl := h.dl
    rw [h0] at hdl
    have hL : (crashA A keep).2.1 = [] := by
      show crashL A.2.1 keep = []
      rw [(hdl.inv0).1]; rfl
    obtain ⟨σ2, e1, e2, e2x, e3, e4⟩ := open_none g2 hok rfl hL h1 h2
    refine ⟨σ1, σ2, crashA A keep, [], [], g1, e1, g3.fw.trans e2, g3.ex.trans e2x, by rw [e128], rfl, rfl, rfl, ⟨e4, e3, hok, by rw [hL]; exact .none rfl, ⟨trivial, by simp, by simp⟩, by simp, rfl⟩, g2, .inl ⟨h0, rfl⟩⟩
  · rw [List.concat_eq_append] at h0
    have hdl := h.dl
    have hgood := h.good
    have hlen := h.len
    rw [h0] at hdl hgood hlen
    obtain ⟨hp, hs⟩ := hdl.inv
    obtain ⟨m, t, m1, m2, m3, m4⟩ := crash_last (g := g) (s := s) (hgood.recs g (by simp)) hs keep
    have hcp := crash_perm hp keep
    rw [m3] at hcp
    have hgc := hgood.cut (s + m)
    obtain ⟨σ2, B, js', e1, e2, e2x, e3, e4, e5, e6, e7, e8, e9⟩ := open_some (most := most) g2 hok rfl rfl hgc (by simp at hlen ⊢; omega) m4 hcp h1 h2
    refine ⟨σ1, σ2, B, js', _, g1, e1, g3.fw.trans e2, g3.ex.trans e2x, by rw [e128], e3, e4, e5, ⟨e8, e6, e7, e9, hgc, by simp at hlen ⊢; omega, (safeOf_all _).symm⟩, g2, .inr ⟨pre, g, m, h0, rfl, m1, hs, t, m2⟩⟩
end
end Go.Proofs.Ytlfemhkabjafeaa.M

/- Plain law of the log, part 8: what must come at any rate, and a log that was played. -/
set_option linter.unusedVariables false
set_option linter.unusedSimpArgs false
namespace Go.Proofs.Ytlfemhkabjafeaa.M

section
variable {σ : St} {l d n0 : Nat} {most : Int} {js : List Nat} {segs : List Sg} {safe s : Nat} {A : AD} {R : List (List UInt8)}

theorem WS.cs (h : WS σ l d n0 most A js segs safe s) : CS σ d n0 A segs s := ⟨h.dv, h.ok, h.dl, h.good, h.len⟩

theorem More.sz {segs' : List Sg} {x : List UInt8} (h : More segs x segs') : szS segs' = szS segs + (24 + x.length) := by
  cases h with
  | fresh h => simp [szS, szR]
  | same => simp [szS, szR]; omega

theorem More.first {segs' : List Sg} {x : List UInt8} (h : More segs x segs') : firstS segs' = firstS segs := by
  cases h with
  | @fresh segs x h =>
    cases segs with
    | nil => rfl
    | cons a r => rfl
  | @same pre g x =>
    cases pre with
    | nil => rfl
    | cons a r => rfl

theorem firstS_last {pre : List Sg} {g : Sg} (hg : Good (pre ++ [g])) : firstS (pre ++ [g]) ≤ g.1 := by
  cases pre with
  | nil => exact Nat.le_refl _
  | cons b q =>
    have := (List.pairwise_append.1 hg.chain.rise).2.2 b (by simp) g (by simp)
    show b.1 ≤ g.1
    omega

theorem safeOf_first (hg : Good segs) (s : Nat) : firstS segs ≤ safeOf segs s := by
  rcases List.eq_nil_or_concat segs with rfl | ⟨pre, g, rfl⟩
  · exact Nat.le_refl _
  · rw [List.concat_eq_append] at *
    rw [safeOf_app]
    have := firstS_last hg
    omega

theorem WS.new (hD : DV σ d n0 A) (hA : OkA A) (hL : A.2.1 = []) (hG : LG σ l d most [] [] 0) : WS σ l d n0 most A [] [] 0 0 :=
  ⟨hG, hD, hA, by rw [hL]; exact .none rfl, ⟨trivial, by simp, by simp⟩, by simp, rfl⟩

/-- An Append on a disk with room, that is not armed. -/
theorem append0 (h : WS σ l d n0 most A js segs safe s) (hd : downA A = false) (h0 : armA0 A = 0) {x : List UInt8} (hx : OkR x) (hn : nextS segs + 1 ≤ 1000000) (hln : segs.length ≤ 100) (hmo : 1 ≤ most) (hov : ¬ Over A segs x) :
    ∃ σ' B js' segs' safe' s', f59 (some l) x σ = some (((nextS segs : Int), 0), σ') ∧ Fw σ σ' d n0 ∧ B.1 = A.1 ∧ armA0 B = 0 ∧ downA B = false ∧ More segs x segs' ∧ safe ≤ safe' ∧ safe' ≤ nextS segs ∧ WS σ' l d n0 most B js' segs' safe' s' := by
  obtain ⟨v, e, σ', B, js', segs', safe', s', r1, r2, r3, r4, r5, r6⟩ := f59_eq h hd hx hn (by omega) hmo
  rcases r5 with ⟨rfl, rfl, o1, o2, o3, o4⟩ | ⟨_, _, _, o, _⟩ | ⟨_, _, o, _⟩
  · exact ⟨σ', B, js', segs', safe', s', r1, r2, r3, r4 h0, o1, o2, r6, o3, o4⟩
  · exact absurd o hov
  · exact absurd h0 o

theorem recB_ge (n : Nat) (x : List UInt8) : 5 ≤ (recB n x).length := by
  have h1 := numV_pos (recT n x).length
  have h2 : (recT n x).length = (numV n).length + x.length + 4 := by unfold recT; rw [sealS_len, List.length_append]
  unfold recB
  rw [List.length_append]; omega

theorem Sub.suffix {segs' : List Sg} (h : segs' <:+ segs) (hR : ∀ g ∈ segs, Sub R g) : ∀ g ∈ segs', Sub R g := fun g hg => hR g (h.subset hg)

theorem f48_eq (σ : St) : ∃ σ', f48 σ = some (true, σ') ∧ Keeps σ σ' := by
  obtain ⟨e0, dv0, ok0⟩ := f18_eq (σ := σ) (room := 1000) (by decide) (by decide)
  obtain ⟨σ1, e1, f1, _, dv1, lg1⟩ := open_none (most := 64) dv0 ok0 rfl rfl (by decide) (by decide)
  have w1 := WS.new dv1 ok0 rfl lg1
  obtain ⟨σ2, B2, js2, segs2, safe2, s2, e2, f2, r2, a2, d2, m2, u2, v2, w2⟩ := append0 w1 rfl rfl (x := [97]) (by decide) (by decide) (by decide) (by decide) (by
    unfold Over szS; simp)
  have z2 := m2.sz
  have n2 := m2.next
  have l2 := m2.len.1
  have hz0 : szS [] = 0 := rfl
  have hn0 : nextS [] = 0 := rfl
  rw [hz0] at z2
  rw [hn0] at n2
  simp only [List.length_nil, List.length_cons] at l2 z2
  obtain ⟨σ3, B3, js3, segs3, safe3, s3, e3, f3, r3, a3, d3, m3, u3, v3, w3⟩ := append0 w2 d2 a2 (x := [98]) (by decide) (by omega) (by omega) (by decide) (by
    unfold Over
    rw [r2, z2]
    simp
    omega)
  have z3 := m3.sz
  have n3 := m3.next
  have l3 := m3.len.1
  simp only [List.length_nil, List.length_cons] at z3
  obtain ⟨σ4, B4, e, g4, f4, x4, r4, a4, dv4, ok4, o4⟩ := f61_eq w3.lg w3.dv w3.ok w3.good (by omega) w3.dl d3
  rcases o4 with ⟨rfl, d4, lg4, dl4⟩ | ⟨_, _, o4, _⟩
  case inr => exact absurd a3 o4
  have w4 : WS σ4 σ.t128.length σ.t105.length σ.t108.length 64 B4 js3 segs3 (nextS segs3) (lastLen segs3) := ⟨lg4, dv4, ok4, dl4, w3.good, w3.len, (safeOf_all _).symm⟩
  obtain ⟨σ5, B5, js5, segs5, safe5, s5, e5, f5, r5, a5, d5, m5, u5, v5, w5⟩ := append0 w4 d4 (a4 a3) (x := [99]) (by decide) (by omega) (by omega) (by decide) (by
    unfold Over
    rw [r4, r3, r2, z3, z2]
    simp
    omega)
  have n5 := m5.next
  have l5 := m5.len.1
  -- what the segments have
  have q2 : ∀ g ∈ segs2, Sub [[97]] g := Sub.more (R := []) m2 (by simp) rfl
  have q3 : ∀ g ∈ segs3, Sub [[97], [98]] g := Sub.more (R := [[97]]) m3 q2 (by simp; omega)
  have q5 : ∀ g ∈ segs5, Sub [[97], [98], [99]] g := Sub.more (R := [[97], [98]]) m5 q3 (by simp; omega)
  have hs5 : safe5 = 2 := by omega
  obtain ⟨σ6, σ7, B7, js7, segs7, e6, e7, f7, x7, t7, r7, a7, d7, w7, dv6, o7⟩ := crash_open (most := 64) w5.cs [2] (by decide) (by decide)
  rcases o7 with ⟨o, _⟩ | ⟨pre, g, m, o1, o2, o3, o4, t, o5⟩
  · rw [o] at n5
    simp [nextS] at n5
  have hsf := w5.sf
  rw [o1, safeOf_app] at hsf
  rw [o1, nextS_app] at n5
  unfold sgN at n5
  have hm0 : m = 0 := by
    rcases Nat.eq_zero_or_pos m with h0 | h0
    · exact h0
    · exfalso
      have hlen := congrArg List.length o5
      rw [List.length_take, List.length_append] at hlen
      have hk := keepN_le [2] (segB (g.1 + s5) (g.2.drop s5)).length
      have hk2 : keepN [2] (segB (g.1 + s5) (g.2.drop s5)).length ≤ 2 := by
        have := Int.tmod_nonneg ((((segB (g.1 + s5) (g.2.drop s5)).length : Nat) : Int) + 1) (a := 2) (by decide)
        unfold keepN
        simp only []
        rw [if_pos (by decide)]
        have h2 : Int.tmod 2 ((((segB (g.1 + s5) (g.2.drop s5)).length : Nat) : Int) + 1) ≤ 2 := by
          rw [Int.tmod_eq_emod_of_nonneg (by decide)]
          have e2 : (2 : Int) % ((((segB (g.1 + s5) (g.2.drop s5)).length : Nat) : Int) + 1) = ((2 % ((segB (g.1 + s5) (g.2.drop s5)).length + 1) : Nat) : Int) := by norm_cast
          rw [e2]
          have := Nat.mod_le 2 ((segB (g.1 + s5) (g.2.drop s5)).length + 1)
          omega
        omega
      have hne : 0 < ((g.2.drop s5).take m).length := by rw [List.length_take, List.length_drop]; omega
      cases hc : (g.2.drop s5).take m with
      | nil => rw [hc] at hne; simp at hne
      | cons y r =>
        rw [hc] at hlen
        simp only [segB, List.length_append] at hlen
        have := recB_ge (g.1 + s5) y
        omega
  subst hm0
  have q7 : ∀ h ∈ segs7, Sub [[97], [98], [99]] h := by
    intro h hh
    rw [o2] at hh
    rcases List.mem_append.1 hh with hh | hh
    · exact q5 h (by rw [o1]; exact List.mem_append.2 (.inl hh))
    · simp only [List.mem_cons, List.not_mem_nil, or_false] at hh
      rw [hh]
      exact (q5 g (by rw [o1]; simp)).take _
  have n7 : nextS segs7 = 2 := by
    rw [o2, nextS_app]
    unfold sgN
    simp only [List.length_take]
    omega
  have hf7 : firstS segs7 ≤ 1 := by
    have h1 : firstS segs7 = firstS segs5 := by
      rw [o2, o1]
      cases pre with
      | nil => rfl
      | cons _ _ => rfl
    rw [h1, m5.first, m3.first, m2.first]
    exact Nat.zero_le _
  obtain ⟨y, y1, y2⟩ := f58_eq w7.lg w7.good (by have := w7.len; omega) q7 (i := 1) hf7 (by omega)
  have hy : y = [98] := by simpa using y1.symm
  subst hy
  refine ⟨σ7, ?_, Keeps.ofw (f1.trans (f2.trans (f3.trans (f4.trans (f5.trans f7)))))⟩
  unfold f48
  rw [e0]
  simp only [Option.bind_eq_bind, Option.bind_some]
  have e1' : f53 (some σ.t105.length) [108, 111, 103] 64 (σ.add105 (1000, [], 0, false, ())) = some ((some (σ.add105 (1000, [], 0, false, ())).t128.length, 0), σ1) := e1
  rw [e1']
  simp only [Option.bind_some]
  rw [if_neg (by simp), e2]
  simp only [Option.bind_some]
  rw [e3]
  simp only [Option.bind_some]
  have g4' : f61 (some (σ.add105 (1000, [], 0, false, ())).t128.length) σ3 = some (0, σ4) := g4
  rw [g4']
  simp only [Option.bind_some]
  have e5' : f59 (some (σ.add105 (1000, [], 0, false, ())).t128.length) [99] σ4 = some (((nextS segs3 : Int), 0), σ5) := e5
  have h3 : ((nextS segs3 : Nat) : Int) = 2 := by omega
  rw [e5', h3]
  simp only [Option.bind_some]
  rw [if_neg (by simp)]
  have e60 : f60 (some (σ.add105 (1000, [], 0, false, ())).t128.length) σ5 = some ((safe5 : Nat) : Int) := f60_eq w5.lg
  rw [e60, hs5]
  simp only [Option.bind_some]
  rw [if_neg (by simp), e6]
  simp only [Option.bind_some]
  have e7' : f53 (some σ.t105.length) [108, 111, 103] 64 σ6 = some ((some σ6.t128.length, 0), σ7) := e7
  rw [if_neg (by simp), e7']
  simp only [Option.bind_some]
  have y2' : f58 (some σ6.t128.length) 1 σ7 = some ([98], 0) := y2
  rw [y2']
  simp only [Option.bind_some]
  rw [if_pos (by simp), f55_eq w7.lg w7.good (by have := w7.len; omega), n7]
  rfl

/-! ### A log played -/
/-- What a played log leaves. -/
def Fin' (σ' : St) (l d n0 : Nat) (A0 : AD) (recs : List (List UInt8)) (best : Nat) : Prop :=
  ∃ B segs s, CS σ' d n0 B segs s ∧ (∀ g ∈ segs, Sub recs g) ∧ nextS segs ≤ recs.length ∧ best ≤ safeOf segs s ∧ firstS segs ≤ best ∧ recs.length ≤ 50 ∧ B.1 = A0.1 ∧ (armA0 A0 = 0 → downA B = false ∧ armA0 B = 0 ∧ ∃ js, WS σ' l d n0 100 B js segs best s)

def Out (res : Option (Sum ((List (List UInt8)) × Int × Int × St) (((Option Nat) × (List (List UInt8)) × Int) × St))) (l : Nat) (recs : List (List UInt8)) (best : Nat) (σ' : St) : Prop :=
  (∃ z, res = some (.inl (recs, (best : Int), z, σ'))) ∨ res = some (.inr ((some l, recs, (best : Int)), σ'))

/-- A log in play. -/
structure PI (σ : St) (l d n0 : Nat) (A0 A : AD) (js : List Nat) (segs : List Sg) (safe s : Nat) (recs : List (List UInt8)) (n : Nat) : Prop where
  ws : WS σ l d n0 100 A js segs safe s
  up : downA A = false
  arm : armA0 A0 = 0 → armA0 A = 0
  next : nextS segs = recs.length
  sub : ∀ g ∈ segs, Sub recs g
  lr : recs.length ≤ n
  ls : segs.length ≤ n
  room : A.1 = A0.1

theorem PI.fin {A0 : AD} {recs : List (List UInt8)} {n : Nat} (h : PI σ l d n0 A0 A js segs safe s recs n) (hn : n ≤ 50) : Fin' σ l d n0 A0 recs safe :=
  ⟨A, segs, s, h.ws.cs, h.sub, by rw [h.next]; exact Nat.le_refl _, by rw [← h.ws.sf]; exact Nat.le_refl _, by rw [h.ws.sf]; exact safeOf_first h.ws.good s, by have := h.lr; omega, h.room, fun ha => ⟨h.up, h.arm ha, js, h.ws⟩⟩

theorem max_up {a b : Nat} (h : a ≤ b) : (if ((b : Nat) : Int) > (a : Int) then ((b : Nat) : Int) else (a : Int)) = ((b : Nat) : Int) := by
  split
  · rfl
  · omega

/-- What is done with a call that puts no record. -/
def restE (p1 : List K97.den) (r3 : ((Option Nat) × Int) × St) (l12 : List (List UInt8)) (x13 : Int) (x14 : Int) (σ15 : St) (x24 : K97.den) : Option (Sum ((List (List UInt8)) × Int × Int × St) (((Option Nat) × (List (List UInt8)) × Int) × St)) :=
  if (x24.1 == 4) = true then
  f61 r3.1.1 σ15 >>= fun r39 =>
  if (r39.1 != 0) = true then
  f60 r3.1.1 r39.2 >>= fun r41 =>
  some (.inr ((r3.1.1, l12, if r41 > x13 then r41 else x13), r39.2))
  else
  f60 r3.1.1 r39.2 >>= fun r42 =>
  f52_l0 p1 r3 l12 (if r42 > x13 then r42 else x13) (IntKind.wrap .i64 (x14 + 1)) r39.2
  else
  if (x24.1 == 5) = true then
  f57 r3.1.1 x24.2.2.1 σ15 >>= fun r45 =>
  if (r45.1 != 0) = true then
  f60 r3.1.1 r45.2 >>= fun r47 =>
  some (.inr ((r3.1.1, l12, if r47 > x13 then r47 else x13), r45.2))
  else
  f60 r3.1.1 r45.2 >>= fun r48 =>
  f52_l0 p1 r3 l12 (if r48 > x13 then r48 else x13) (IntKind.wrap .i64 (x14 + 1)) r45.2
  else
  f60 r3.1.1 σ15 >>= fun r49 =>
  f52_l0 p1 r3 l12 (if r49 > x13 then r49 else x13) (IntKind.wrap .i64 (x14 + 1)) σ15

theorem rest_eq {A0 : AD} {p1 : List K97.den} {r3 : ((Option Nat) × Int) × St} {recs : List (List UInt8)} {n : Nat} (h3 : r3.1.1 = some l) (h : PI σ l d n0 A0 A js segs safe s recs n) (hn : n < 50) (x : K97.den)
    (next : ∀ (σ' : St) (A' : AD) (js' : List Nat) (segs' : List Sg) (safe' s' : Nat), PI σ' l d n0 A0 A' js' segs' safe' s' recs (n + 1) → ∃ recs' best' σ'', Out (f52_l0 p1 r3 recs (safe' : Int) ((n + 1 : Nat) : Int) σ') l recs' best' σ'' ∧ Fw σ' σ'' d n0 ∧ Fin' σ'' l d n0 A0 recs' best') :
    ∃ recs' best' σ'', Out (restE p1 r3 recs (safe : Int) (n : Int) σ x) l recs' best' σ'' ∧ Fw σ σ'' d n0 ∧ Fin' σ'' l d n0 A0 recs' best' := by
  have hw : IntKind.wrap .i64 ((n : Int) + 1) = ((n + 1 : Nat) : Int) := by rw [wrap_id (by omega) (by omega)]; omega
  have hlen := h.ws.len
  unfold restE
  rw [h3, hw]
  by_cases c4 : x.1 = 4
  · rw [if_pos (by simpa using c4)]
    obtain ⟨σ1, B, e, g1, f1, _, r1, a1, k1, k2, ⟨rfl, o1, o2, o3⟩ | ⟨rfl, o1, o2, o3, o4⟩⟩ := f61_eq h.ws.lg h.ws.dv h.ws.ok h.ws.good (by omega) h.ws.dl h.up
    · have hup := safe_le_next h.ws
      have w1 : WS σ1 l d n0 100 B js segs (nextS segs) (lastLen segs) := ⟨o2, k1, k2, o3, h.ws.good, h.ws.len, (safeOf_all _).symm⟩
      rw [g1]
      simp only [Option.bind_eq_bind, Option.bind_some]
      rw [if_neg (by simp), f60_eq o2]
      simp only [Option.bind_some]
      rw [max_up hup]
      obtain ⟨recs', best', σ'', n1, n2, n3⟩ := next σ1 B js segs (nextS segs) (lastLen segs) ⟨w1, o1, fun ha => a1 (h.arm ha), h.next, h.sub, by have := h.lr; omega, by have := h.ls; omega, r1.trans h.room⟩
      exact ⟨recs', best', σ'', n1, f1.trans n2, n3⟩
    · rw [g1]
      simp only [Option.bind_eq_bind, Option.bind_some]
      rw [if_pos (by simp), f60_eq o3]
      simp only [Option.bind_some]
      rw [max_up (Nat.le_refl _)]
      refine ⟨recs, safe, σ1, .inr rfl, f1, B, segs, s, ⟨k1, k2, o4, h.ws.good, h.ws.len⟩, h.sub, by rw [h.next]; exact Nat.le_refl _, by rw [← h.ws.sf]; exact Nat.le_refl _, by rw [h.ws.sf]; exact safeOf_first h.ws.good s, by have := h.lr; omega, r1.trans h.room, fun ha => absurd (h.arm ha) o2⟩
  · rw [if_neg (by simpa using c4)]
    by_cases c5 : x.1 = 5
    · rw [if_pos (by simpa using c5)]
      obtain ⟨σ1, B, js', segs', e, g1, f1, r1, a1, t1, t2, t3, ⟨rfl, o1, o2⟩ | ⟨rfl, o1, o2, o3, o4, o5, o6, o7⟩⟩ := f57_eq h.ws h.up x.2.2.1
      · rw [g1]
        simp only [Option.bind_eq_bind, Option.bind_some]
        rw [if_neg (by simp), f60_eq o2.lg]
        simp only [Option.bind_some]
        rw [max_up (Nat.le_refl _)]
        have hnx : nextS segs' = nextS segs := by
          obtain ⟨q, hq⟩ := t1
          rcases List.eq_nil_or_concat segs' with h0 | ⟨pre, g, h0⟩
          · have := t2 h0
            rw [h0, this]
          · rw [List.concat_eq_append] at h0
            rw [← hq, h0, ← List.append_assoc, nextS_app, nextS_app]
        obtain ⟨recs', best', σ'', n1, n2, n3⟩ := next σ1 B js' segs' safe s ⟨o2, o1, fun ha => a1 (h.arm ha), hnx.trans h.next, Sub.suffix t1 h.sub, by have := h.lr; omega, by have := h.ls; have := t1.length_le; omega, r1.trans h.room⟩
        exact ⟨recs', best', σ'', n1, f1.trans n2, n3⟩
      · rw [g1]
        simp only [Option.bind_eq_bind, Option.bind_some]
        rw [if_pos (by simp), f60_eq o3]
        simp only [Option.bind_some]
        rw [max_up (Nat.le_refl _)]
        have hgs : Good segs' := by
          obtain ⟨q, hq⟩ := t1
          have hg := h.ws.good
          rw [← hq] at hg
          refine ⟨?_, fun g hgg => hg.recs g (List.mem_append.2 (.inr hgg)), fun g hgg => hg.top g (List.mem_append.2 (.inr hgg))⟩
          have : ∀ (q r : List Sg), Chn none (q ++ r) → Chn none r := by
            intro q
            induction q with
            | nil => intro r h; exact h
            | cons a q ih => intro r h; exact ih r (Chn.tail h)
          exact this q segs' hg.chain
        have hnx : nextS segs' ≤ nextS segs := by
          obtain ⟨q, hq⟩ := t1
          rcases List.eq_nil_or_concat segs' with h0 | ⟨pre, g, h0⟩
          · rw [h0]; exact Nat.zero_le _
          · rw [List.concat_eq_append] at h0
            rw [← hq, h0, ← List.append_assoc, nextS_app, nextS_app]; exact Nat.le_refl _
        refine ⟨recs, safe, σ1, .inr rfl, f1, B, segs', s, ⟨o5, o6, o7, hgs, by have := t1.length_le; omega⟩, Sub.suffix t1 h.sub, by rw [← h.next]; exact hnx, by rw [← o4]; exact Nat.le_refl _, by rw [o4]; exact safeOf_first hgs s, by have := h.lr; omega, r1.trans h.room, fun ha => absurd (h.arm ha) o2⟩
    · rw [if_neg (by simpa using c5), f60_eq h.ws.lg]
      simp only [Option.bind_eq_bind, Option.bind_some]
      rw [max_up (Nat.le_refl _)]
      exact next σ A js segs safe s ⟨h.ws, h.up, h.arm, h.next, h.sub, by have := h.lr; omega, by have := h.ls; omega, h.room⟩

theorem f52_loop {A0 : AD} {p1 : List K97.den} {r3 : ((Option Nat) × Int) × St} (h3 : r3.1.1 = some l) : ∀ (j n : Nat) (σ : St) (A : AD) (js : List Nat) (segs : List Sg) (safe s : Nat) (recs : List (List UInt8)), n + j = 50 → PI σ l d n0 A0 A js segs safe s recs n →
    ∃ recs' best' σ'', Out (f52_l0 p1 r3 recs (safe : Int) (n : Int) σ) l recs' best' σ'' ∧ Fw σ σ'' d n0 ∧ Fin' σ'' l d n0 A0 recs' best'
  | 0, n, σ, A, js, segs, safe, s, recs, hn, h => by
    rw [f52_l0]
    have : n = 50 := by omega
    subst this
    exact ⟨recs, safe, σ, .inl ⟨((50 : Nat) : Int), by simp⟩, Fw.refl _ _ _, h.fin (by omega)⟩
  | j + 1, n, σ, A, js, segs, safe, s, recs, hn, h => by
    have c2 : ((n : Int) < 50) := by omega
    have hw : IntKind.wrap .i64 ((n : Int) + 1) = ((n + 1 : Nat) : Int) := by rw [wrap_id (by omega) (by omega)]; omega
    by_cases hl : n < p1.length
    case neg =>
      rw [f52_l0]
      have h1 : ¬ ((n : Int) < (p1.length : Int)) := by omega
      exact ⟨recs, safe, σ, .inl ⟨(n : Int), by simp [h1]⟩, Fw.refl _ _ _, h.fin (by omega)⟩
    have h1 : ((n : Int) < (p1.length : Int)) := by omega
    have next : ∀ (σ' : St) (A' : AD) (js' : List Nat) (segs' : List Sg) (safe' s' : Nat) (recs2 : List (List UInt8)), PI σ' l d n0 A0 A' js' segs' safe' s' recs2 (n + 1) → ∃ recs' best' σ'', Out (f52_l0 p1 r3 recs2 (safe' : Int) ((n + 1 : Nat) : Int) σ') l recs' best' σ'' ∧ Fw σ' σ'' d n0 ∧ Fin' σ'' l d n0 A0 recs' best' :=
      fun σ' A' js' segs' safe' s' recs2 hp => f52_loop h3 j (n + 1) σ' A' js' segs' safe' s' recs2 (by omega) hp
    have rest := rest_eq (p1 := p1) h3 h (by omega) p1[n] (fun σ' A' js' segs' safe' s' hp => next σ' A' js' segs' safe' s' recs hp)
    unfold restE at rest
    rw [f52_l0]
    simp only [h1, c2, decide_true, Bool.and_self, if_true, ix_at hl, Option.bind_eq_bind, Option.bind_some]
    simp only [Option.bind_eq_bind] at rest
    by_cases k0 : (p1[n].1 : Int) ≥ 0
    case neg => rw [if_neg (by simpa using k0)]; exact rest
    rw [if_pos (by simpa using k0)]
    by_cases k4 : (p1[n].1 : Int) < 4
    case neg => rw [if_neg (by simpa using k4)]; exact rest
    rw [if_pos (by simpa using k4)]
    obtain ⟨x, hx⟩ : ∃ x : List UInt8, p1[n].2.1 = x := ⟨_, rfl⟩
    rw [hx]
    by_cases kl : x.length ≤ 1024
    case neg => rw [if_neg (by simp; omega)]; exact rest
    have hlr := h.lr
    have hls := h.ls
    rw [if_pos (by simp; omega), if_pos (by omega), hw, h3]
    obtain ⟨v, e, σ1, B, js', segs', safe', s', a1, a2, a3, a4, a5, a6⟩ := f59_eq h.ws h.up (x := x) kl (by rw [h.next]; omega) (by omega) (by decide)
    rw [a1]
    simp only [Option.bind_some]
    rcases a5 with ⟨rfl, rfl, o1, o2, o3, o4⟩ | ⟨rfl, o1, o2, o3, o4⟩ | ⟨rfl, o1, o2, o3, o4, o5, o6, o7, o8⟩
    · rw [if_neg (by simp), f60_eq o4.lg]
      simp only [Option.bind_some]
      rw [max_up a6]
      have hln := o2.len.1
      obtain ⟨recs', best', σ'', n1, n2, n3⟩ := next σ1 B js' segs' safe' s' (recs ++ [x]) ⟨o4, o1, fun ha => a4 (h.arm ha), by rw [o2.next, h.next]; simp, Sub.more o2 h.sub h.next, by simp; omega, by omega, a3.trans h.room⟩
      exact ⟨recs', best', σ'', n1, a2.trans n2, n3⟩
    · rw [if_pos (by simp), f60_eq o4.lg]
      simp only [Option.bind_some]
      rw [max_up a6]
      subst o2
      refine ⟨recs ++ [x], safe', σ1, .inr rfl, a2, B, _, s', o4.cs, fun g hg => (h.sub g hg).app x, by rw [h.next]; simp, by rw [← o4.sf]; exact Nat.le_refl _, by rw [o4.sf]; exact safeOf_first o4.good s', by simp; omega, a3.trans h.room, fun ha => ⟨o1, a4 (h.arm ha), js', o4⟩⟩
    · rw [if_pos (by simp), o4]
      simp only [Option.bind_some]
      rw [max_up a6]
      have hsf := h.ws.sf
      have hfs := safeOf_first h.ws.good s
      rcases o3 with rfl | o3
      · refine ⟨recs ++ [x], safe', σ1, .inr rfl, a2, B, _, s', ⟨o6, o7, o8, h.ws.good, h.ws.len⟩, fun g hg => (h.sub g hg).app x, by rw [h.next]; simp, o5, by omega, by simp; omega, a3.trans h.room, fun ha => absurd (h.arm ha) o2⟩
      · have hln := o3.len.1
        have hfr := o3.first
        refine ⟨recs ++ [x], safe', σ1, .inr rfl, a2, B, _, s', ⟨o6, o7, o8, o3.good h.ws.good kl (by rw [h.next]; omega), by omega⟩, Sub.more o3 h.sub h.next, by rw [o3.next, h.next]; simp, o5, by omega, by simp; omega, a3.trans h.room, fun ha => absurd (h.arm ha) o2⟩

theorem f52_eq (hD : DV σ d n0 A) (hA : OkA A) (hd : downA A = false) (hL : A.2.1 = []) (p1 : List K97.den) :
    ∃ recs best σ', f52 (some d) p1 σ = some ((some σ.t128.length, recs, ((best : Nat) : Int)), σ') ∧ Fw σ σ' d n0 ∧ Fin' σ' σ.t128.length d n0 A recs best := by
  obtain ⟨σ1, e1, f1, _, dv1, lg1⟩ := open_none (most := 100) hD hA hd hL (by decide) (by decide)
  have w1 := WS.new dv1 hA hL lg1
  obtain ⟨recs, best, σ', o, f2, fin⟩ := f52_loop (A0 := A) (p1 := p1) (r3 := ((some σ.t128.length, 0), σ1)) (l := σ.t128.length) (d := d) (n0 := n0) rfl 50 0 σ1 A [] [] 0 0 [] (by omega) ⟨w1, hd, id, rfl, by simp, by simp, by simp, rfl⟩
  refine ⟨recs, best, σ', ?_, f1.trans f2, fin⟩
  unfold f52
  have e1' : f53 (some d) [108, 111, 103] 100 σ = some ((some σ.t128.length, 0), σ1) := e1
  rw [e1']
  simp only [Option.bind_eq_bind, Option.bind_some]
  rw [if_neg (by simp)]
  have hz : (((0 : Nat) : Nat) : Int) = 0 := rfl
  rcases o with ⟨z, o⟩ | o
  · rw [hz] at o
    rw [o]
    rfl
  · rw [hz] at o
    rw [o]
    rfl
end
end Go.Proofs.Ytlfemhkabjafeaa.M
