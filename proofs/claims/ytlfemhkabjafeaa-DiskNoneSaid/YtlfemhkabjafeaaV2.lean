/- Plain law, part 2: a disk as a plain value, and what each call makes of it. -/
import Derived.Test.YtlfemhkabjafeaaV1
set_option linter.unusedVariables false
set_option linter.unusedSimpArgs false
namespace Go.Proofs.Ytlfemhkabjafeaa.M

/-- A file: its name, its safe bytes, others. -/
abbrev FR : Type := List UInt8 × List UInt8 × List UInt8 × Unit
/-- A disk: its room, its files by rising names, what it is armed to, is it down? -/
abbrev AD : Type := Int × List FR × Int × Bool × Unit
/-- A call: its kind, name, bytes, other name, number, what is kept. -/
abbrev AT : Type := Int × List UInt8 × List UInt8 × List UInt8 × Int × List Int × Unit

/-! ### Order of names -/
theorem u8_irrefl (a : UInt8) : ¬ a < a := UInt8.lt_irrefl a
theorem ltr {a b c : List UInt8} (h1 : a < b) (h2 : b < c) : a < c := List.lt_trans h1 h2
theorem lirr (a : List UInt8) : ¬ a < a := List.lt_irrefl a
theorem lne {a b : List UInt8} (h : a < b) : a ≠ b := fun e => lirr b (e ▸ h)
theorem ltri {a b : List UInt8} (h1 : ¬ a < b) (h2 : a ≠ b) : b < a := by
  have h : b ≤ a := List.not_lt.1 h1
  rcases List.le_iff_lt_or_eq.1 h with h | h
  · exact h
  · exact absurd h.symm h2

/-! ### Files -/
def fsize (f : FR) : Nat := f.2.1.length + f.2.2.1.length
def usedL : List FR → Nat
  | [] => 0
  | f :: r => fsize f + usedL r
def findL (s : List UInt8) : List FR → Option FR
  | [] => none
  | f :: r => cond (f.1 == s) (some f) (findL s r)
def setL (f : FR) : Bool → List FR → List FR
  | done, [] => cond done [] [f]
  | done, g :: r => (cond (!done && !decide (g.1 < f.1)) [f] []) ++ ((cond (g.1 == f.1) [] [g]) ++ setL f (done || !decide (g.1 < f.1)) r)
def dropL (s : List UInt8) : List FR → List FR
  | [] => []
  | f :: r => (cond (f.1 == s) [] [f]) ++ dropL s r

theorem usedL_append (l l' : List FR) : usedL (l ++ l') = usedL l + usedL l' := by
  induction l with
  | nil => simp [usedL]
  | cons f r ih => simp only [List.cons_append, usedL, ih]; omega

theorem usedL_perm {l l' : List FR} (h : l.Perm l') : usedL l = usedL l' := by
  induction h with
  | nil => rfl
  | cons f _ ih => simp [usedL, ih]
  | swap f g r => simp only [usedL]; omega
  | trans _ _ h1 h2 => rw [h1, h2]

theorem dropL_eq (s : List UInt8) (L : List FR) : dropL s L = L.filter (fun g => !(g.1 == s)) := by
  induction L with
  | nil => rfl
  | cons f r ih => 
    cases h : (f.1 == s)
    · rw [List.filter_cons_of_pos (by simp [h])]; simp [dropL, h, ih]
    · rw [List.filter_cons_of_neg (by simp [h])]; simp [dropL, h, ih]

theorem setL_true (f : FR) (L : List FR) : setL f true L = dropL f.1 L := by
  induction L with
  | nil => rfl
  | cons g r ih => simp [setL, dropL, ih]

theorem setL_perm (f : FR) (L : List FR) : (setL f false L).Perm (f :: dropL f.1 L) := by
  induction L with
  | nil => exact List.Perm.refl _
  | cons g r ih =>
    simp only [setL, dropL]
    by_cases h : g.1 < f.1
    · have hb : (g.1 == f.1) = false := by simpa using lne h
      simp only [h, decide_true, Bool.not_true, Bool.and_false, cond_false, hb, Bool.or_self, List.nil_append, List.singleton_append]
      exact (List.Perm.cons g ih).trans (List.Perm.swap f g _)
    · simp only [h, decide_false, Bool.not_false, Bool.and_self, cond_true, Bool.or_true, setL_true, List.singleton_append]
      exact List.Perm.refl _

theorem mem_dropL {s : List UInt8} {L : List FR} {g : FR} : g ∈ dropL s L ↔ g ∈ L ∧ g.1 ≠ s := by
  rw [dropL_eq, List.mem_filter]; simp

theorem mem_setL {f : FR} {L : List FR} {g : FR} : g ∈ setL f false L ↔ g = f ∨ (g ∈ L ∧ g.1 ≠ f.1) := by
  rw [(setL_perm f L).mem_iff, List.mem_cons, mem_dropL]

abbrev SortL (L : List FR) : Prop := L.Pairwise (fun f g => f.1 < g.1)

theorem SortL.drop {L : List FR} (h : SortL L) (s : List UInt8) : SortL (dropL s L) := by
  rw [dropL_eq]; exact h.filter _

theorem SortL.set {f : FR} {L : List FR} (h : SortL L) : SortL (setL f false L) := by
  induction L with
  | nil => simp [setL, SortL]
  | cons g r ih =>
    have hr := List.pairwise_cons.1 h
    simp only [setL]
    by_cases hg : g.1 < f.1
    · have hb : (g.1 == f.1) = false := by simpa using lne hg
      simp only [hg, decide_true, Bool.not_true, Bool.and_false, cond_false, hb, Bool.or_self, List.nil_append, List.singleton_append]
      refine List.pairwise_cons.2 ⟨fun x hx => ?_, ih hr.2⟩
      rcases mem_setL.1 hx with rfl | ⟨hx, _⟩
      · exact hg
      · exact hr.1 x hx
    · simp only [hg, decide_false, Bool.not_false, Bool.and_self, cond_true, Bool.or_true, setL_true, List.singleton_append]
      have hd : SortL (cond (g.1 == f.1) [] [g] ++ dropL f.1 r) := h.drop f.1
      refine List.pairwise_cons.2 ⟨fun x hx => ?_, hd⟩
      have hx' : x ∈ dropL f.1 (g :: r) := hx
      obtain ⟨hx1, hx2⟩ := mem_dropL.1 hx'
      rcases List.mem_cons.1 hx1 with rfl | hx1
      · exact ltri hg hx2
      · by_cases he : g.1 = f.1
        · rw [← he]; exact hr.1 x hx1
        · exact ltr (ltri hg he) (hr.1 x hx1)

theorem findL_some {s : List UInt8} {L : List FR} {f : FR} (h : findL s L = some f) : f ∈ L ∧ f.1 = s := by
  induction L with
  | nil => simp [findL] at h
  | cons g r ih =>
    simp only [findL] at h
    cases hg : (g.1 == s)
    · rw [hg] at h; obtain ⟨h1, h2⟩ := ih h; exact ⟨List.mem_cons_of_mem _ h1, h2⟩
    · rw [hg] at h; simp only [cond_true, Option.some.injEq] at h; subst h; exact ⟨List.mem_cons_self, by simpa using hg⟩

theorem findL_none {s : List UInt8} {L : List FR} (h : findL s L = none) : ∀ f ∈ L, f.1 ≠ s := by
  induction L with
  | nil => simp
  | cons g r ih =>
    simp only [findL] at h
    cases hg : (g.1 == s)
    · rw [hg] at h
      intro f hf
      rcases List.mem_cons.1 hf with rfl | hf
      · simpa using hg
      · exact ih h f hf
    · rw [hg] at h; simp at h

theorem findL_of {s : List UInt8} {L : List FR} (hs : SortL L) {f : FR} (h1 : f ∈ L) (h2 : f.1 = s) : findL s L = some f := by
  induction L with
  | nil => simp at h1
  | cons g r ih =>
    have hr := List.pairwise_cons.1 hs
    simp only [findL]
    rcases List.mem_cons.1 h1 with rfl | h1
    · simp [h2]
    · have : (g.1 == s) = false := by
        have := lne (hr.1 f h1); rw [h2] at this; simpa using this
      rw [this]; exact ih hr.2 h1

theorem findL_no {s : List UInt8} {L : List FR} (h : ∀ f ∈ L, f.1 ≠ s) : findL s L = none := by
  cases hf : findL s L with
  | none => rfl
  | some f => obtain ⟨h1, h2⟩ := findL_some hf; exact absurd h2 (h f h1)

theorem dropL_none {s : List UInt8} {L : List FR} (h : findL s L = none) : dropL s L = L := by
  rw [dropL_eq, List.filter_eq_self]
  intro f hf
  simpa using findL_none h f hf

theorem dropL_perm {s : List UInt8} {L : List FR} (hs : SortL L) {f : FR} (h : findL s L = some f) : L.Perm (f :: dropL s L) := by
  induction L with
  | nil => simp [findL] at h
  | cons g r ih =>
    have hr := List.pairwise_cons.1 hs
    simp only [findL] at h
    cases hg : (g.1 == s)
    · rw [hg] at h
      simp only [dropL, hg, cond_false, List.singleton_append]
      exact (List.Perm.cons g (ih hr.2 h)).trans (List.Perm.swap f g _)
    · rw [hg] at h; simp only [cond_true, Option.some.injEq] at h; subst h
      simp only [dropL, hg, cond_true, List.nil_append]
      have : dropL s r = r := by
        rw [dropL_eq, List.filter_eq_self]
        intro x hx
        have h1 := lne (hr.1 x hx)
        have h2 : g.1 = s := by simpa using hg
        rw [h2] at h1
        simpa using fun e => h1 e.symm
      rw [this]

theorem findL_set {f : FR} {L : List FR} (hs : SortL L) (s : List UInt8) : findL s (setL f false L) = if f.1 = s then some f else findL s L := by
  by_cases h : f.1 = s
  · rw [if_pos h]
    exact findL_of hs.set (mem_setL.2 (.inl rfl)) h
  · rw [if_neg h]
    cases hf : findL s L with
    | none => exact findL_no (fun g hg => by
        rcases mem_setL.1 hg with rfl | ⟨hg, _⟩
        · exact h
        · exact findL_none hf g hg)
    | some g =>
      obtain ⟨h1, h2⟩ := findL_some hf
      exact findL_of hs.set (mem_setL.2 (.inr ⟨h1, fun e => h (e.symm.trans h2)⟩)) h2

theorem findL_drop {t : List UInt8} {L : List FR} (hs : SortL L) (s : List UInt8) : findL s (dropL t L) = if t = s then none else findL s L := by
  by_cases h : t = s
  · rw [if_pos h]; subst h
    exact findL_no (fun g hg => (mem_dropL.1 hg).2)
  · rw [if_neg h]
    cases hf : findL s L with
    | none => exact findL_no (fun g hg => findL_none hf g (mem_dropL.1 hg).1)
    | some g =>
      obtain ⟨h1, h2⟩ := findL_some hf
      exact findL_of (hs.drop t) (mem_dropL.2 ⟨h1, fun e => h (e.symm.trans h2)⟩) h2

/-! ### What is kept in a crash -/
def keepN (keep : List Int) (n : Nat) : Nat := match keep with
  | [] => 0
  | x :: _ => (if 0 < x then Int.tmod x (n + 1) else 0).toNat

def crashL : List FR → List Int → List FR
  | [], _ => []
  | f :: r, keep => cond f.2.2.1.isEmpty ((f.1, f.2.1, [], ()) :: crashL r keep) ((f.1, f.2.1 ++ f.2.2.1.take (keepN keep f.2.2.1.length), [], ()) :: crashL r keep.tail)

theorem keepN_le (keep : List Int) (n : Nat) : keepN keep n ≤ n := by
  cases keep with
  | nil => simp [keepN]
  | cons x r =>
    simp only [keepN]
    split
    · have := Int.tmod_lt_of_pos x (b := (n : Int) + 1) (by omega)
      omega
    · simp

/-! ### Calls -/
def putA (A : AD) (L : List FR) : AD := (A.1, L, A.2.2.1, A.2.2.2.1, ())
def goesA (A : AD) : Bool × AD := if A.2.2.1 = 0 then (false, A) else (A.2.2.1 == 1, (A.1, A.2.1, A.2.2.1 - 1, A.2.2.1 == 1, ()))
def writeA (A : AD) (k : AD → AD) : Int × AD := if (goesA A).1 = true then (11, (goesA A).2) else (0, k (goesA A).2)
def emptyF (s : List UInt8) : FR := (s, [], [], ())
def moreF (f : FR) (b : List UInt8) : FR := (f.1, f.2.1, f.2.2.1 ++ b, ())
def safeF (s : List UInt8) (f : FR) : FR := (s, f.2.1 ++ f.2.2.1, [], ())
def cutF (s : List UInt8) (f : FR) (n : Nat) : FR := if n ≤ f.2.1.length then (s, f.2.1.take n, [], ()) else (s, f.2.1, f.2.2.1.take (n - f.2.1.length), ())
def nameF (s : List UInt8) (f : FR) : FR := (s, f.2.1, [], ())

abbrev full (A : AD) (s b : List UInt8) : Prop := ((findL s A.2.1).isNone = true ∧ 128 ≤ A.2.1.length) ∨ (65536 < b.length + fsize ((findL s A.2.1).getD (emptyF s))) ∨ A.1 < (b.length : Int) + usedL A.2.1

def appendA (A : AD) (s b : List UInt8) : Int × AD :=
  if A.2.2.2.1 = true then (11, A) else if okName s = false then (2, A) else
  if full A s b then (10, A) else
  writeA (putA A (setL (moreF ((findL s A.2.1).getD (emptyF s)) b) false A.2.1)) id

def someA (A : AD) (s : List UInt8) (k : FR → Int × AD) : Int × AD :=
  if A.2.2.2.1 = true then (11, A) else match findL s A.2.1 with
    | none => (8, A)
    | some f => k f

def syncA (A : AD) (s : List UInt8) : Int × AD := someA A s fun f => writeA A (fun B => putA B (setL (safeF s f) false B.2.1))
def truncA (A : AD) (s : List UInt8) (n : Int) : Int × AD := someA A s fun f => if n < 0 ∨ (fsize f : Int) < n then (3, A) else writeA A (fun B => putA B (setL (cutF s f n.toNat) false B.2.1))
def renameA (A : AD) (s t : List UInt8) : Int × AD :=
  if A.2.2.2.1 = true then (11, A) else if okName s = false then (2, A) else if okName t = false then (2, A) else
  someA A s fun f => if f.2.2.1 ≠ [] then (12, A) else writeA A (fun B => putA B (setL (nameF t f) false (dropL s B.2.1)))
def removeA (A : AD) (s : List UInt8) : Int × AD := someA A s fun _ => writeA A (fun B => putA B (dropL s B.2.1))
def armA (A : AD) (n : Int) : Int × AD := if A.2.2.2.1 = true then (11, A) else if n < 1 then (2, A) else (0, (A.1, A.2.1, n, A.2.2.2.1, ()))
def crashA (A : AD) (keep : List Int) : AD := (A.1, crashL A.2.1 keep, 0, false, ())
def readA (A : AD) (s : List UInt8) : List UInt8 × Int := if A.2.2.2.1 = true then ([], 11) else match findL s A.2.1 with
  | none => ([], 8)
  | some f => (f.2.1 ++ f.2.2.1, 0)
def safeA (A : AD) (s : List UInt8) : Int := match findL s A.2.1 with
  | none => 0
  | some f => (f.2.1.length : Int)
def doA (A : AD) (a : AT) : Int × AD :=
  if a.1 = 0 ∨ a.1 = 1 ∨ a.1 = 2 then appendA A a.2.1 a.2.2.1 else
  if a.1 = 3 then syncA A a.2.1 else
  if a.1 = 4 then truncA A a.2.1 a.2.2.2.2.1 else
  if a.1 = 5 then renameA A a.2.1 a.2.2.2.1 else
  if a.1 = 6 then removeA A a.2.1 else
  if a.1 = 7 then armA A a.2.2.2.2.1 else (0, crashA A a.2.2.2.2.2.1)

/-- What a disk is at any time. -/
structure OkA (A : AD) : Prop where
  sorted : SortL A.2.1
  files : A.2.1.length ≤ 128
  each : ∀ f ∈ A.2.1, fsize f ≤ 65536
  used : (usedL A.2.1 : Int) ≤ A.1
  room : A.1 ≤ 1048576
  armed : 0 ≤ A.2.2.1 ∧ A.2.2.1 < 9223372036854775808

/-- What comes in with a call. -/
structure OkT (a : AT) : Prop where
  name : a.2.1.length < 9223372036854775808
  to : a.2.2.2.1.length < 9223372036854775808
  n : -9223372036854775808 ≤ a.2.2.2.2.1 ∧ a.2.2.2.2.1 < 9223372036854775808

theorem OkA.goes {A : AD} (h : OkA A) : OkA (goesA A).2 := by
  unfold goesA
  split
  · exact h
  · obtain ⟨h1, h2, h3, h4, h5, h6⟩ := h
    exact ⟨h1, h2, h3, h4, h5, by have := h6; simp only; omega⟩

theorem goesA_L (A : AD) : (goesA A).2.2.1 = A.2.1 ∧ (goesA A).2.1 = A.1 := by
  unfold goesA; split <;> exact ⟨rfl, rfl⟩

theorem OkA.write {A : AD} (h : OkA A) {k : AD → AD} (hk : ∀ B, OkA B → B.2.1 = A.2.1 → B.1 = A.1 → OkA (k B)) : OkA (writeA A k).2 := by
  unfold writeA
  split
  · exact h.goes
  · exact hk _ h.goes (goesA_L A).1 (goesA_L A).2

theorem usedL_drop_le (s : List UInt8) (L : List FR) : usedL (dropL s L) ≤ usedL L := by
  induction L with
  | nil => exact Nat.le_refl _
  | cons f r ih =>
    simp only [dropL]
    cases (f.1 == s)
    · simp only [cond_false, List.singleton_append, usedL]; omega
    · simp only [cond_true, List.nil_append, usedL]; omega

theorem dropL_len_le (s : List UInt8) (L : List FR) : (dropL s L).length ≤ L.length := by
  rw [dropL_eq]; exact List.length_filter_le _ _

theorem setL_len (f : FR) (L : List FR) : (setL f false L).length = (dropL f.1 L).length + 1 := by
  rw [(setL_perm f L).length_eq]; rfl

theorem setL_used (f : FR) (L : List FR) : usedL (setL f false L) = fsize f + usedL (dropL f.1 L) := by
  rw [usedL_perm (setL_perm f L)]; rfl

/-- A file that is no greater than the one that it replaces. -/
theorem OkA.put {A : AD} (h : OkA A) {g f : FR} {s : List UInt8} (hf : findL s A.2.1 = some f) (hg : g.1 = s) (hle : fsize g ≤ fsize f) : OkA (putA A (setL g false A.2.1)) := by
  obtain ⟨h1, h2, h3, h4, h5, h6⟩ := h
  have hp := dropL_perm h1 hf
  have hl := hp.length_eq
  have hu := usedL_perm hp
  simp only [List.length_cons, usedL] at hl hu
  refine ⟨h1.set, ?_, ?_, ?_, h5, h6⟩
  · simp only [putA, setL_len, hg]; omega
  · intro x hx
    rcases mem_setL.1 hx with rfl | ⟨hx, _⟩
    · exact Nat.le_trans hle (h3 f (findL_some hf).1)
    · exact h3 x hx
  · simp only [putA, setL_used, hg]; omega

theorem OkA.dropped {A : AD} (h : OkA A) (s : List UInt8) : OkA (putA A (dropL s A.2.1)) := by
  obtain ⟨h1, h2, h3, h4, h5, h6⟩ := h
  have hl := dropL_len_le s A.2.1
  have hu := usedL_drop_le s A.2.1
  refine ⟨h1.drop s, ?_, ?_, ?_, h5, h6⟩
  · simp only [putA]; omega
  · intro x hx; exact h3 x (mem_dropL.1 hx).1
  · simp only [putA]; omega

theorem fsize_cut {s : List UInt8} {f : FR} {n : Nat} (h : n ≤ fsize f) : fsize (cutF s f n) = n := by
  unfold cutF fsize at *
  split <;> simp <;> omega

theorem crashL_len : ∀ (L : List FR) (keep : List Int), (crashL L keep).length = L.length
  | [], _ => rfl
  | f :: r, keep => by
    unfold crashL
    cases f.2.2.1.isEmpty
    · simp [crashL_len r]
    · simp [crashL_len r]

theorem crashL_names : ∀ (L : List FR) (keep : List Int), (crashL L keep).map (·.1) = L.map (·.1)
  | [], _ => rfl
  | f :: r, keep => by
    unfold crashL
    cases f.2.2.1.isEmpty
    · simp [crashL_names r]
    · simp [crashL_names r]

theorem crashL_used : ∀ (L : List FR) (keep : List Int), usedL (crashL L keep) ≤ usedL L
  | [], _ => Nat.le_refl _
  | f :: r, keep => by
    unfold crashL
    have h1 := crashL_used r keep
    have h2 := crashL_used r keep.tail
    cases f.2.2.1.isEmpty
    · simp only [cond_false, usedL, fsize, List.length_append, List.length_take, List.length_nil]; omega
    · simp only [cond_true, usedL, fsize, List.length_nil]; omega

theorem crashL_each {m : Nat} : ∀ (L : List FR) (keep : List Int), (∀ f ∈ L, fsize f ≤ m) → ∀ f ∈ crashL L keep, fsize f ≤ m
  | [], _, _ => by simp [crashL]
  | f :: r, keep, h => by
    have hf := h f List.mem_cons_self
    have h1 := crashL_each r keep (fun x hx => h x (List.mem_cons_of_mem _ hx))
    have h2 := crashL_each r keep.tail (fun x hx => h x (List.mem_cons_of_mem _ hx))
    unfold crashL
    unfold fsize at hf
    intro x hx
    cases hb : f.2.2.1.isEmpty
    · rw [hb] at hx
      simp only [cond_false, List.mem_cons] at hx
      rcases hx with rfl | hx
      · simp only [fsize, List.length_append, List.length_take, List.length_nil]; omega
      · exact h2 x hx
    · rw [hb] at hx
      simp only [cond_true, List.mem_cons] at hx
      rcases hx with rfl | hx
      · simp only [fsize, List.length_nil]; omega
      · exact h1 x hx

theorem SortL_names {L L' : List FR} (h : L.map (·.1) = L'.map (·.1)) (hs : SortL L) : SortL L' := by
  have h1 : (L.map (·.1)).Pairwise (· < ·) := List.pairwise_map.2 hs
  rw [h] at h1
  exact List.pairwise_map.1 h1

theorem OkA.crash {A : AD} (h : OkA A) (keep : List Int) : OkA (crashA A keep) := by
  obtain ⟨h1, h2, h3, h4, h5, h6⟩ := h
  have hl := crashL_len A.2.1 keep
  have hu := crashL_used A.2.1 keep
  refine ⟨SortL_names (crashL_names A.2.1 keep).symm h1, ?_, crashL_each _ _ h3, ?_, h5, ?_⟩
  · simp only [crashA]; omega
  · simp only [crashA]; omega
  · simp only [crashA]; omega

theorem OkA.appended {A : AD} (h : OkA A) {s b : List UInt8} (hc : ¬ full A s b) : OkA (putA A (setL (moreF ((findL s A.2.1).getD (emptyF s)) b) false A.2.1)) := by
  obtain ⟨h1, h2, h3, h4, h5, h6⟩ := h
  simp only [full, not_or, not_and, Nat.not_le, Nat.not_lt, Int.not_lt] at hc
  obtain ⟨c1, c2, c3⟩ := hc
  cases hf : findL s A.2.1 with
  | none =>
    rw [hf] at c1 c2
    have c1 := c1 rfl
    have hd := dropL_none hf
    have e1 : (moreF ((none : Option FR).getD (emptyF s)) b).1 = s := rfl
    refine ⟨h1.set, ?_, ?_, ?_, h5, h6⟩
    · simp only [putA, setL_len, e1, hd]; omega
    · intro x hx
      rcases mem_setL.1 hx with rfl | ⟨hx, _⟩
      · simp only [Option.getD_none, fsize, emptyF, moreF, List.length_append, List.length_nil] at c2 ⊢; omega
      · exact h3 x hx
    · simp only [putA, setL_used, e1, hd]
      simp only [Option.getD_none, fsize, emptyF, moreF, List.length_append, List.length_nil] at c2 ⊢; omega
  | some f =>
    rw [hf] at c1 c2
    have hn := (findL_some hf).2
    have hp := dropL_perm h1 hf
    have hl := hp.length_eq
    have hu := usedL_perm hp
    simp only [List.length_cons, usedL] at hl hu
    have e1 : (moreF ((some f).getD (emptyF s)) b).1 = s := hn
    refine ⟨h1.set, ?_, ?_, ?_, h5, h6⟩
    · simp only [putA, setL_len, e1]; omega
    · intro x hx
      rcases mem_setL.1 hx with rfl | ⟨hx, _⟩
      · simp only [Option.getD_some, fsize, moreF, List.length_append] at c2 ⊢; omega
      · exact h3 x hx
    · simp only [putA, setL_used, e1]
      simp only [Option.getD_some, fsize, moreF, List.length_append] at c2 hu ⊢; omega

theorem OkA.append {A : AD} (h : OkA A) (s b : List UInt8) : OkA (appendA A s b).2 := by
  unfold appendA
  split
  · exact h
  split
  · exact h
  split
  · exact h
  rename_i hc
  exact (h.appended hc).write (fun B hB _ _ => hB)

theorem OkA.some {A : AD} (h : OkA A) {s : List UInt8} {k : FR → Int × AD} (hk : ∀ f, findL s A.2.1 = .some f → OkA (k f).2) : OkA (someA A s k).2 := by
  unfold someA
  split
  · exact h
  split
  · exact h
  · rename_i f hf; exact hk f hf

theorem OkA.do {A : AD} (h : OkA A) {a : AT} (ha : OkT a) : OkA (doA A a).2 := by
  unfold doA
  split
  · exact h.append _ _
  split
  · refine h.some (fun f hf => h.write (fun B hB hL _ => ?_))
    refine hB.put (f := f) (s := a.2.1) (by rw [hL]; exact hf) rfl ?_
    simp [fsize, safeF]
  split
  · refine h.some (fun f hf => ?_)
    split
    · exact h
    · rename_i hc
      simp only [not_or, Int.not_lt] at hc
      refine h.write (fun B hB hL _ => ?_)
      refine hB.put (f := f) (s := a.2.1) (by rw [hL]; exact hf) (by unfold cutF; split <;> rfl) ?_
      rw [fsize_cut (by omega)]; omega
  split
  · unfold renameA
    split
    · exact h
    split
    · exact h
    split
    · exact h
    refine h.some (fun f hf => ?_)
    split
    · exact h
    rename_i hm
    simp only [ne_eq, Decidable.not_not] at hm
    refine h.write (fun B hB hL _ => ?_)
    rw [← hL] at hf
    have hp := dropL_perm hB.sorted hf
    have hl := hp.length_eq
    have hu := usedL_perm hp
    simp only [List.length_cons, usedL, fsize] at hl hu
    have hd := hB.dropped a.2.1
    have hl2 := dropL_len_le (nameF a.2.2.2.1 f).1 (dropL a.2.1 B.2.1)
    have hu2 := usedL_drop_le (nameF a.2.2.2.1 f).1 (dropL a.2.1 B.2.1)
    have hx1 := hB.files
    have hx2 := hB.used
    refine ⟨hd.sorted.set, ?_, ?_, ?_, hB.room, hB.armed⟩
    · simp only [putA, setL_len]; omega
    · intro x hx
      rcases mem_setL.1 hx with rfl | ⟨hx, _⟩
      · have := hB.each f (findL_some hf).1
        simp only [fsize, nameF, List.length_nil] at this ⊢; omega
      · exact hd.each x hx
    · have e : fsize (nameF a.2.2.2.1 f) ≤ f.2.1.length := by simp [fsize, nameF]
      simp only [putA, setL_used]; omega
  split
  · refine h.some (fun f hf => h.write (fun B hB hL _ => hB.dropped _))
  split
  · unfold armA
    split
    · exact h
    split
    · exact h
    · obtain ⟨h1, h2, h3, h4, h5, h6⟩ := h
      have := ha.n
      exact ⟨h1, h2, h3, h4, h5, by simp only; omega⟩
  · exact h.crash _
end Go.Proofs.Ytlfemhkabjafeaa.M
