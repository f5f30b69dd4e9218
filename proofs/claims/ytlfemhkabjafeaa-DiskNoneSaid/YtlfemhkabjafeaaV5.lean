/- Plain law, part 5: how a disk lies in the tables, and what changes there make of it. -/
import Derived.Test.YtlfemhkabjafeaaV4
import Derived.Test.YtlfemhkabjafeaaW3
set_option linter.unusedVariables false
set_option linter.unusedSimpArgs false
namespace Go.Proofs.Ytlfemhkabjafeaa.M

/-- An entry of a disk's map. -/
abbrev ME : Type := List UInt8 × Option Nat

/-! ### A map's entries -/
section
variable {m : List ME} {s : List UInt8}

def Keys (m : List ME) : Prop := (m.map (·.1)).Nodup

theorem mapGet_cons (q : ME) (r : List ME) : mapGet .str (.ptr 108) s (q :: r) = cond (s == q.1) (some q.2) (mapGet .str (.ptr 108) s r) := by
  obtain ⟨k, v⟩ := q
  simp only [mapGet, keyEq]
  cases (s == k) <;> rfl

theorem mapGet_mem (hk : Keys m) {v : Option Nat} (h : (s, v) ∈ m) : mapGet .str (.ptr 108) s m = some v := by
  induction m with
  | nil => simp at h
  | cons q r ih =>
    rw [mapGet_cons]
    unfold Keys at hk
    rw [List.map_cons, List.nodup_cons] at hk
    rcases List.mem_cons.1 h with rfl | h
    · simp
    · have : (s == q.1) = false := by
        have : s ≠ q.1 := fun e => hk.1 (by rw [← e]; exact List.mem_map.2 ⟨_, h, rfl⟩)
        simpa using this
      rw [this]; exact ih hk.2 h

theorem mapGet_no (h : ∀ q ∈ m, q.1 ≠ s) : mapGet .str (.ptr 108) s m = none := by
  induction m with
  | nil => rfl
  | cons q r ih =>
    rw [mapGet_cons]
    have : (s == q.1) = false := by
      have := h q List.mem_cons_self
      simpa using fun e => this e.symm
    rw [this]; exact ih (fun q hq => h q (List.mem_cons_of_mem _ hq))

def others (s : List UInt8) (m : List ME) : List ME := m.filter (fun q => !(q.1 == s))

theorem others_self (h : ∀ q ∈ m, q.1 ≠ s) : others s m = m := by
  unfold others; rw [List.filter_eq_self]; intro q hq; simpa using h q hq

theorem mapSet_perm (hk : Keys m) (v : Option Nat) : (mapSet .str (.ptr 108) s v m).Perm ((s, v) :: others s m) := by
  induction m with
  | nil => exact List.Perm.refl _
  | cons q r ih =>
    obtain ⟨k, u⟩ := q
    unfold Keys at hk
    rw [List.map_cons, List.nodup_cons] at hk
    simp only [mapSet, keyEq]
    cases hs : (s == k) with
    | true =>
      have he : s = k := by simpa using hs
      subst he
      have : others s ((s, u) :: r) = r := by
        unfold others
        rw [List.filter_cons_of_neg (by simp)]
        exact others_self (fun q hq e => hk.1 (by rw [← e]; exact List.mem_map.2 ⟨q, hq, rfl⟩))
      rw [this]
    | false =>
      have : others s ((k, u) :: r) = (k, u) :: others s r := by
        unfold others
        rw [List.filter_cons_of_pos]
        have : s ≠ k := by simpa using hs
        simpa using fun e => this e.symm
      rw [this]
      exact (List.Perm.cons _ (ih hk.2)).trans (List.Perm.swap _ _ _)

theorem mapDel_eq (hk : Keys m) : mapDel .str (.ptr 108) s m = others s m := by
  induction m with
  | nil => rfl
  | cons q r ih =>
    obtain ⟨k, u⟩ := q
    unfold Keys at hk
    rw [List.map_cons, List.nodup_cons] at hk
    simp only [mapDel, keyEq]
    cases hs : (s == k) with
    | true =>
      have he : s = k := by simpa using hs
      subst he
      have : others s ((s, u) :: r) = r := by
        unfold others
        rw [List.filter_cons_of_neg (by simp)]
        exact others_self (fun q hq e => hk.1 (by rw [← e]; exact List.mem_map.2 ⟨q, hq, rfl⟩))
      rw [this]
    | false =>
      have : others s ((k, u) :: r) = (k, u) :: others s r := by
        unfold others
        rw [List.filter_cons_of_pos]
        have : s ≠ k := by simpa using hs
        simpa using fun e => this e.symm
      rw [this, ih hk.2]
end

/-! ### A disk in the tables -/
/-- A file, as it lies in the table of files. -/
def cont (f : FR) : denFs fs108 := (f.2.1 ++ f.2.2.1, (f.2.1.length : Int), ())
def entry (q : FR × Nat) : ME := (q.1.1, some q.2)
def rest (s : List UInt8) (qs : List (FR × Nat)) : List (FR × Nat) := qs.filter (fun q => !(q.1.1 == s))

structure DVq (σ : St) (d n0 : Nat) (A : AD) (o : denFs fs105) (qs : List (FR × Nat)) : Prop where
  ho : σ.t105[d]? = some o
  room : o.1 = A.1
  armed : o.2.2.1 = A.2.2.1
  down : o.2.2.2.1 = A.2.2.2.1
  map : o.2.1.Perm (qs.map entry)
  files : (qs.map (·.1)).Perm A.2.1
  nodup : (qs.map (·.2)).Nodup
  lie : ∀ q ∈ qs, σ.t108[q.2]? = some (cont q.1) ∧ n0 ≤ q.2
  base : n0 ≤ σ.t108.length

/-- The disk at a place lies there as this plain one. -/
def DV (σ : St) (d n0 : Nat) (A : AD) : Prop := ∃ o qs, DVq σ d n0 A o qs

/-- What a call on a disk leaves as it was. -/
structure Fr (σ σ' : St) (d n0 : Nat) : Prop where
  t47 : σ'.t47 = σ.t47
  t105 : ∀ i, i ≠ d → i < σ.t105.length → σ'.t105[i]? = σ.t105[i]?
  l105 : σ.t105.length ≤ σ'.t105.length
  t108 : ∀ j, j < n0 → σ'.t108[j]? = σ.t108[j]?
  l108 : σ.t108.length ≤ σ'.t108.length

theorem Fr.refl (σ : St) (d n0 : Nat) : Fr σ σ d n0 := ⟨rfl, fun _ _ _ => rfl, Nat.le_refl _, fun _ _ => rfl, Nat.le_refl _⟩
theorem Fr.trans {σ σ' σ'' : St} {d n0 : Nat} (h1 : Fr σ σ' d n0) (h2 : Fr σ' σ'' d n0) : Fr σ σ'' d n0 :=
  ⟨h2.t47.trans h1.t47, fun i hi hl => (h2.t105 i hi (Nat.lt_of_lt_of_le hl h1.l105)).trans (h1.t105 i hi hl), Nat.le_trans h1.l105 h2.l105, fun j hj => (h2.t108 j hj).trans (h1.t108 j hj), Nat.le_trans h1.l108 h2.l108⟩

section
variable {σ : St} {d n0 : Nat} {A : AD} {o : denFs fs105} {qs : List (FR × Nat)}

theorem DVq.same (h : DVq σ d n0 A o qs) {σ' : St} (h1 : σ'.t105 = σ.t105) (h2 : σ'.t108 = σ.t108) : DVq σ' d n0 A o qs := by
  obtain ⟨a1, a2, a3, a4, a5, a6, a7, a8, a9⟩ := h
  exact ⟨by rw [h1]; exact a1, a2, a3, a4, a5, a6, a7, by rw [h2]; exact a8, by rw [h2]; exact a9⟩

theorem DVq.names (h : DVq σ d n0 A o qs) (hs : SortL A.2.1) : (qs.map (fun q => q.1.1)).Nodup := by
  have h1 : (A.2.1.map (·.1)).Nodup := by
    have : (A.2.1.map (·.1)).Pairwise (· < ·) := List.pairwise_map.2 hs
    exact this.imp (fun h => lne h)
  have h2 := (h.files.map (·.1)).nodup_iff.2 h1
  rw [List.map_map] at h2
  exact h2

theorem DVq.keys (h : DVq σ d n0 A o qs) (hs : SortL A.2.1) : Keys o.2.1 := by
  unfold Keys
  refine (h.map.map (·.1)).nodup_iff.2 ?_
  rw [List.map_map]
  exact h.names hs

theorem DVq.len (h : DVq σ d n0 A o qs) : o.2.1.length = A.2.1.length := by
  have h1 := h.map.length_eq
  have h2 := h.files.length_eq
  simp only [List.length_map] at h1 h2
  omega

theorem DVq.look (h : DVq σ d n0 A o qs) (hs : SortL A.2.1) (s : List UInt8) :
    (findL s A.2.1 = none ∧ mapGet .str (.ptr 108) s o.2.1 = none ∧ ∀ q ∈ qs, q.1.1 ≠ s) ∨ ∃ f j, findL s A.2.1 = some f ∧ mapGet .str (.ptr 108) s o.2.1 = some (some j) ∧ (f, j) ∈ qs ∧ f.1 = s ∧ σ.t108[j]? = some (cont f) := by
  cases hf : findL s A.2.1 with
  | none =>
    have hq : ∀ q ∈ qs, q.1.1 ≠ s := fun q hq => findL_none hf q.1 (h.files.mem_iff.1 (List.mem_map.2 ⟨q, hq, rfl⟩))
    refine .inl ⟨rfl, mapGet_no (fun q hq2 => ?_), hq⟩
    obtain ⟨p, hp, rfl⟩ := List.mem_map.1 (h.map.mem_iff.1 hq2)
    exact hq p hp
  | some f =>
    obtain ⟨h1, h2⟩ := findL_some hf
    obtain ⟨q, hq, rfl⟩ := List.mem_map.1 (h.files.mem_iff.2 h1)
    refine .inr ⟨q.1, q.2, rfl, mapGet_mem (h.keys hs) ?_, hq, h2, (h.lie q hq).1⟩
    refine h.map.mem_iff.2 (List.mem_map.2 ⟨q, hq, ?_⟩)
    unfold entry; rw [h2]

theorem rest_none {s : List UInt8} (h : ∀ q ∈ qs, q.1.1 ≠ s) : rest s qs = qs := by
  unfold rest; rw [List.filter_eq_self]; intro q hq; simpa using h q hq

theorem rest_perm {f : FR} {j : Nat} (hn : (qs.map (fun q => q.1.1)).Nodup) (hq : (f, j) ∈ qs) : qs.Perm ((f, j) :: rest f.1 qs) := by
  induction qs with
  | nil => simp at hq
  | cons p r ih =>
    rw [List.map_cons, List.nodup_cons] at hn
    rcases List.mem_cons.1 hq with rfl | hq
    · have : rest f.1 ((f, j) :: r) = r := by
        unfold rest
        rw [List.filter_cons_of_neg (by simp)]
        exact rest_none (fun q hq e => hn.1 (by rw [← e]; exact List.mem_map.2 ⟨q, hq, rfl⟩))
      rw [this]
    · have : rest f.1 (p :: r) = p :: rest f.1 r := by
        unfold rest
        rw [List.filter_cons_of_pos]
        have : p.1.1 ≠ f.1 := fun e => hn.1 (by rw [e]; exact List.mem_map.2 ⟨(f, j), hq, rfl⟩)
        simpa using this
      rw [this]
      exact (List.Perm.cons _ (ih hn.2 hq)).trans (List.Perm.swap _ _ _)

theorem rest_map (s : List UInt8) : (rest s qs).map entry = others s (qs.map entry) := by
  unfold rest others
  rw [List.filter_map]
  rfl

theorem rest_fst (s : List UInt8) : (rest s qs).map (·.1) = dropL s (qs.map (·.1)) := by
  unfold rest
  rw [dropL_eq, List.filter_map]
  rfl

theorem dropL_congr {s : List UInt8} {L L' : List FR} (h : L.Perm L') : (dropL s L).Perm (dropL s L') := by
  rw [dropL_eq, dropL_eq]; exact h.filter _

theorem mem_rest {s : List UInt8} {q : FR × Nat} : q ∈ rest s qs ↔ q ∈ qs ∧ q.1.1 ≠ s := by
  unfold rest; rw [List.mem_filter]; simp

theorem DVq.perm (h : DVq σ d n0 A o qs) {L : List FR} (hL : A.2.1.Perm L) : DVq σ d n0 (putA A L) o qs := by
  obtain ⟨a1, a2, a3, a4, a5, a6, a7, a8, a9⟩ := h
  exact ⟨a1, a2, a3, a4, a5, a6.trans hL, a7, a8, a9⟩

theorem cons_set {g : FR} {L L' : List FR} (h : L.Perm (dropL g.1 L')) : (g :: L).Perm (setL g false L') :=
  (List.Perm.cons g h).trans (setL_perm g L').symm

/-- Other bytes in a file. -/
theorem DVq.upd (h : DVq σ d n0 A o qs) (hs : SortL A.2.1) {f g : FR} {j : Nat} (hq : (f, j) ∈ qs) (hg : g.1 = f.1) :
    DVq (σ.set108 j (cont g)) d n0 (putA A (setL g false A.2.1)) o ((g, j) :: rest f.1 qs) := by
  have hp := rest_perm (h.names hs) hq
  have hj := (h.lie _ hq).1
  have hnd : (j :: (rest f.1 qs).map (fun q => q.2)).Nodup := (hp.map (fun q : FR × Nat => q.2)).nodup_iff.1 h.nodup
  refine ⟨h.ho, h.room, h.armed, h.down, ?_, ?_, hnd, ?_, ?_⟩
  · refine h.map.trans ((hp.map entry).trans ?_)
    rw [List.map_cons, List.map_cons]
    have : entry (g, j) = entry (f, j) := by unfold entry; rw [hg]
    rw [this]
  · rw [List.map_cons, rest_fst, ← hg]
    exact cons_set (dropL_congr h.files)
  · intro q hq2
    rcases List.mem_cons.1 hq2 with rfl | hq2
    · exact ⟨set108_get hj, (h.lie _ hq).2⟩
    · have hne : j ≠ q.2 := fun e => (List.nodup_cons.1 hnd).1 (by rw [e]; exact List.mem_map.2 ⟨q, hq2, rfl⟩)
      obtain ⟨e1, e2⟩ := h.lie q (mem_rest.1 hq2).1
      refine ⟨?_, e2⟩
      simp only [St.set108]
      rw [List.getElem?_set_ne hne]; exact e1
  · simpa [St.set108] using h.base

theorem frame108 {j : Nat} {x : denFs fs108} (hj : n0 ≤ j) : Fr σ (σ.set108 j x) d n0 := by
  refine ⟨rfl, fun _ _ _ => rfl, Nat.le_refl _, fun i hi => ?_, by simp [St.set108]⟩
  simp only [St.set108]
  rw [List.getElem?_set_ne (by omega)]

theorem frame105 {x : denFs fs105} : Fr σ (σ.set105 d x) d n0 := by
  refine ⟨rfl, fun i hi _ => ?_, by simp [St.set105], fun _ _ => rfl, Nat.le_refl _⟩
  simp only [St.set105]
  rw [List.getElem?_set_ne (Ne.symm hi)]

theorem frame_add108 {x : denFs fs108} (hb : n0 ≤ σ.t108.length) : Fr σ (σ.add108 x) d n0 := by
  refine ⟨rfl, fun _ _ _ => rfl, Nat.le_refl _, fun j hj => ?_, by simp [St.add108]⟩
  simp only [St.add108]
  rw [List.getElem?_append_left (by omega)]

/-- Another file at a name. -/
theorem DVq.link (h : DVq σ d n0 A o qs) (hs : SortL A.2.1) {g : FR} {j : Nat} (hj : j ∉ qs.map (·.2)) (hc : σ.t108[j]? = some (cont g)) (hb : n0 ≤ j) :
    DVq (σ.set105 d (o.1, mapSet .str (.ptr 108) g.1 (some j) o.2.1, o.2.2.1, o.2.2.2.1, ())) d n0 (putA A (setL g false A.2.1)) (o.1, mapSet .str (.ptr 108) g.1 (some j) o.2.1, o.2.2.1, o.2.2.2.1, ()) ((g, j) :: rest g.1 qs) := by
  refine ⟨set105_get h.ho, h.room, h.armed, h.down, ?_, ?_, ?_, ?_, h.base⟩
  · refine (mapSet_perm (h.keys hs) (some j)).trans ?_
    rw [List.map_cons, rest_map]
    exact List.Perm.cons _ (h.map.filter _)
  · rw [List.map_cons, rest_fst]
    exact cons_set (dropL_congr h.files)
  · rw [List.map_cons, List.nodup_cons]
    refine ⟨fun hm => hj ?_, (List.filter_sublist.map _).nodup h.nodup⟩
    obtain ⟨q, hq, e⟩ := List.mem_map.1 hm
    exact List.mem_map.2 ⟨q, (mem_rest.1 hq).1, e⟩
  · intro q hq
    rcases List.mem_cons.1 hq with rfl | hq
    · exact ⟨hc, hb⟩
    · exact h.lie q (mem_rest.1 hq).1

/-- A name taken away. -/
theorem DVq.unlink (h : DVq σ d n0 A o qs) (hs : SortL A.2.1) (s : List UInt8) :
    DVq (σ.set105 d (o.1, mapDel .str (.ptr 108) s o.2.1, o.2.2.1, o.2.2.2.1, ())) d n0 (putA A (dropL s A.2.1)) (o.1, mapDel .str (.ptr 108) s o.2.1, o.2.2.1, o.2.2.2.1, ()) (rest s qs) := by
  refine ⟨set105_get h.ho, h.room, h.armed, h.down, ?_, ?_, ?_, ?_, h.base⟩
  · show (mapDel .str (.ptr 108) s o.2.1).Perm _
    rw [mapDel_eq (h.keys hs), rest_map]
    exact h.map.filter _
  · rw [rest_fst]; exact dropL_congr h.files
  · exact (List.filter_sublist.map _).nodup h.nodup
  · intro q hq
    exact h.lie q (mem_rest.1 hq).1

theorem DVq.state (h : DVq σ d n0 A o qs) {a : Int} {b : Bool} : DVq (σ.set105 d (o.1, o.2.1, a, b, ())) d n0 (A.1, A.2.1, a, b, ()) (o.1, o.2.1, a, b, ()) qs :=
  ⟨set105_get h.ho, h.room, rfl, rfl, h.map, h.files, h.nodup, h.lie, h.base⟩

/-! ### What is read -/
theorem used_entries : ∀ {qs : List (FR × Nat)}, (∀ q ∈ qs, σ.t108[q.2]? = some (cont q.1)) → usedS (qs.map entry) σ = some (usedL (qs.map (·.1)))
  | [], _ => rfl
  | q :: r, h => by
    refine usedS_cons.2 ⟨q.2, cont q.1, usedL (r.map (·.1)), rfl, h q List.mem_cons_self, used_entries (fun p hp => h p (List.mem_cons_of_mem _ hp)), ?_⟩
    simp [usedL, fsize, cont]

theorem f20_eq (h : DVq σ d n0 A o qs) (hA : OkA A) : f20 (some d) σ = some ((usedL A.2.1 : Nat) : Int) := by
  unfold f20
  have h1 := used_entries (σ := σ) (qs := qs) (fun q hq => (h.lie q hq).1)
  have h2 := usedS_perm h.map.symm h1
  rw [usedL_perm h.files] at h2
  have h3 := hA.used; have h4 := hA.room
  simp [h.ho, h2]
  rw [wrap_id (by omega) (by omega)]

theorem sorted_eq {l l' : List (List UInt8)} (h : l.Perm l') (hs : l'.Pairwise (· < ·)) : sorted l = l' := by
  unfold sorted
  have hp := (List.mergeSort_perm l (fun x y => decide (x ≤ y))).trans h
  refine hp.eq_of_pairwise (le := fun x y => x ≤ y) ?_ ?_ ?_
  · intro a b _ _ h1 h2; exact List.le_antisymm h1 h2
  · have := List.pairwise_mergeSort (le := fun x y : List UInt8 => decide (x ≤ y)) (fun a b c h1 h2 => by simp only [decide_eq_true_eq] at *; exact List.le_trans h1 h2) (fun a b => by simp only [Bool.or_eq_true, decide_eq_true_eq]; exact List.le_total a b) l
    exact this.imp (fun h => by simpa using h)
  · exact hs.imp (fun h => List.le_of_lt h)

theorem f21_eq (h : DVq σ d n0 A o qs) (hA : OkA A) : f21 (some d) σ = some (A.2.1.map (·.1)) := by
  unfold f21
  have hl := h.len
  have hf := hA.files
  have hp : (o.2.1.map (·.1)).Perm (A.2.1.map (·.1)) := by
    refine (h.map.map (·.1)).trans ?_
    rw [List.map_map]
    have := h.files.map (·.1)
    rw [List.map_map] at this
    exact this
  have hs := sorted_eq hp (List.pairwise_map.2 hA.sorted)
  have hg : (o.2.1.length + 1) * 16 ≤ 140737488355328 := by omega
  simp [h.ho, hs, hg]

theorem f70_eq (h : DVq σ d n0 A o qs) : f70 (some d) σ = some (if A.2.2.2.1 = true then 11 else 0) := by
  unfold f70
  have := h.down
  simp only [h.ho, Option.isNone_some, Option.bind_eq_bind, Option.bind_some, this]
  rw [if_neg (by decide)]
  split <;> rfl

/-- Is it found? -/
theorem f77_cases (h : DVq σ d n0 A o qs) (hA : OkA A) (s : List UInt8) :
    (A.2.2.2.1 = true ∧ f77 (some d) s σ = some (none, 11)) ∨ (A.2.2.2.1 = false ∧ ((findL s A.2.1 = none ∧ f77 (some d) s σ = some (none, 8)) ∨ ∃ f j, findL s A.2.1 = some f ∧ (f, j) ∈ qs ∧ f.1 = s ∧ σ.t108[j]? = some (cont f) ∧ mapGet .str (.ptr 108) s o.2.1 = some (some j) ∧ f77 (some d) s σ = some (some j, 0))) := by
  unfold f77
  rw [f70_eq h]
  simp only [h.ho, Option.bind_eq_bind, Option.bind_some]
  cases hd : A.2.2.2.1 with
  | true => exact .inl ⟨rfl, by simp⟩
  | false =>
    refine .inr ⟨rfl, ?_⟩
    rcases h.look hA.sorted s with ⟨h1, h2, _⟩ | ⟨f, j, h1, h2, h3, h4, h5⟩
    · exact .inl ⟨h1, by simp [h2, zeroK]⟩
    · exact .inr ⟨f, j, h1, h3, h4, h5, h2, by simp [h2]⟩

theorem f28_eq (h : DVq σ d n0 A o qs) (hA : OkA A) (s : List UInt8) : f28 (some d) s σ = some (readA A s) := by
  unfold f28 readA
  rcases f77_cases h hA s with ⟨h1, h2⟩ | ⟨h1, ⟨h2, h3⟩ | ⟨f, j, h2, h3, h4, h5, _, h6⟩⟩
  · simp [h1, h2]
  · simp [h1, h2, h3]
  · simp [h1, h2, h6, h5, cont]

theorem f30_eq (h : DVq σ d n0 A o qs) (hA : OkA A) (s : List UInt8) : f30 (some d) s σ = some (safeA A s) := by
  unfold f30 safeA
  simp only [h.ho, Option.isNone_some, Option.bind_eq_bind, Option.bind_some]
  rw [if_neg (by decide)]
  rcases h.look hA.sorted s with ⟨h1, h2, _⟩ | ⟨f, j, h1, h2, h3, h4, h5⟩
  · simp [h1, h2, zeroK]
  · simp [h1, h2, h5, cont]

theorem f31_eq (h : DVq σ d n0 A o qs) : f31 (some d) σ = some A.2.2.2.1 := by
  unfold f31
  simp [h.ho, h.down]
end
end Go.Proofs.Ytlfemhkabjafeaa.M
