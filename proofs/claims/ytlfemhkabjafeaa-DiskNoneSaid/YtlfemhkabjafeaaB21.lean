/- Own library, part 21: the start, where all blocks are frozen; the end. -/
import Derived.Test.YtlfemhkabjafeaaB20
set_option linter.unusedVariables false
set_option linter.unusedSimpArgs false
namespace Go.Proofs.Ytlfemhkabjafeaa.M

section
variable {P : Program} {w w' : World} {G : Gh} {T T' : Tabs} {Ls : List LS}

/-- At the start all blocks are frozen. -/
def Gh.start (w : World) : Gh := { role := fun b => (match w.heap[b]? with | some o => .pub o | none => .free), base := w }

theorem Holds.start (w : World) (hT : ∀ t tab, T t = some tab → tab.xs.length = 0) : Holds w (Gh.start w) T [] where
  os := rfl
  tape := rfl
  output := rfl
  free := by
    intro b hb
    have : w.heap[b]? = none := Array.getElem?_eq_none hb
    simp [Gh.start, this]
  block := by
    intro b
    unfold BlockOK
    simp only [Gh.start]
    cases h : w.heap[b]? with
    | none => trivial
    | some o => rfl
  ex := by intro t tab i h1 h2; rw [hT t tab h1] at h2; omega
  inj := by
    intro b b' t i h1
    simp only [Gh.start] at h1
    split at h1 <;> simp at h1
  finj := by
    intro b b' t i f h1
    simp only [Gh.start] at h1
    split at h1 <;> simp at h1
  fex := by
    intro b t i f h1
    simp only [Gh.start] at h1
    split at h1 <;> simp at h1
  loc := by simp
  nd := by simp

theorem Holds.kept (h : Holds w' G T Ls) (hle : (Gh.start w).le G) : (w'.os = w.os ∧ w'.tape = w.tape ∧ w'.output = w.output) ∧ w.heap.size ≤ w'.heap.size ∧ ∀ b, b < w.heap.size → w'.heap[b]? = w.heap[b]? := by
  have hb : ∀ b, b < w.heap.size → w'.heap[b]? = w.heap[b]? := by
    intro b hlt
    have hs : w.heap[b]? = some w.heap[b] := by simp
    have h1 := hle.2 b
    simp only [Gh.start, hs] at h1
    have h2 := h.block b
    unfold BlockOK at h2
    rw [h1] at h2
    rw [hs]; exact h2
  refine ⟨⟨by rw [h.os, hle.1]; rfl, by rw [h.tape, hle.1]; rfl, by rw [h.output, hle.1]; rfl⟩, ?_, hb⟩
  rcases Nat.lt_or_ge w'.heap.size w.heap.size with hlt | hge
  · have := hb _ hlt
    rw [Array.getElem?_eq_none (Nat.le_refl _)] at this
    simp [hlt] at this
  · exact hge

/-- A function that is said to do something, called at the start. -/
theorem Spec.start {f : Nat} {As : List En} {R : En} (hS : Spec P f As T R T') (hT : ∀ t tab, T t = some tab → tab.xs.length = 0) {args : List Value} (hA : All2 (EnR (Gh.start w)) As args) :
    Calls P f args.toArray w fun e w' => match e with
      | .returned v => (∃ G, EnR G R v) ∧ (w'.os = w.os ∧ w'.tape = w.tape ∧ w'.output = w.output) ∧ w.heap.size ≤ w'.heap.size ∧ ∀ b, b < w.heap.size → w'.heap[b]? = w.heap[b]?
      | .outgrown => False
      | .panicked _ => False := by
  refine (hS.run args w (Gh.start w) [] hA (Holds.start w hT) NoHole.nil).mono ?_
  intro e w' hp
  cases e with
  | returned v =>
    obtain ⟨G', hle, hv, hH⟩ := hp
    exact ⟨⟨G', hv⟩, hH.kept hle⟩
  | panicked c => exact hp
  | outgrown => exact hp
end
end Go.Proofs.Ytlfemhkabjafeaa.M
