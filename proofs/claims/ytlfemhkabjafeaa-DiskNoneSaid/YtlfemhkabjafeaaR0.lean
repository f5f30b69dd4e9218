/- Own library: what comes in by the statement's reading is plain data that lies in frozen blocks. -/
import Derived.Test.YtlfemhkabjafeaaB21
import Derived.WalkKit
import Derived.ProofKit
import Derived.OpenShut
import Derived.ShutString
import Derived.ChangeOld
import Derived.Below
import Derived.Carry
import Derived.SizedLaws
set_option linter.unusedVariables false
set_option linter.unusedSimpArgs false
namespace Go.Proofs.Ytlfemhkabjafeaa.M
open Go.ChangeShapes Go.WideShapes Go.RowKit

/-! ### Kinds and types -/
def fieldsK (P : Program) (T : TypeId → Kd → Bool) : Nat → List Field → Kd → Bool
  | _, [], .unit => true
  | off, f :: r, .pair a b => T f.type a && (P.cellsOf f.type == a.w) && (f.offset == off) && fieldsK P T (off + a.w) r b
  | _, _, _ => false

def tyK (P : Program) : Nat → TypeId → Kd → Bool
  | 0, _, _ => false
  | n + 1, t, k => match P.underlying t, k with
    | some (.int a), .int b => decide (a = b)
    | some .bool, .bool => true
    | some .string, .str => true
    | some (.slice e), .list q => tyK P n e q && (P.cellsOf e == q.w) && decide (0 < q.w)
    | some (.struct fs), .pair a b => fieldsK P (tyK P n) 0 fs.toList (.pair a b) && (P.cellsOf t == (Kd.pair a b).w)
    | _, _ => false

/-- What a reading tells beside. -/
def Kd.Fits : (k : Kd) → k.den → Prop
  | .unit, _ => True
  | .int k, n => (Lit.int k n).wf = true
  | .bool, _ => True
  | .str, s => s.length ≤ 9223372036854775807
  | .ptr _, _ => True
  | .list k, xs => xs.length ≤ 9223372036854775807 ∧ ∀ x ∈ xs, k.Fits x
  | .pair a b, x => a.Fits x.1 ∧ b.Fits x.2

theorem choose_list {α : Type} {R : Nat → α → Prop} : ∀ (n : Nat), (∀ i, i < n → ∃ y, R i y) → ∃ ys : List α, ys.length = n ∧ ∀ i (h : i < ys.length), R i ys[i]
  | 0, _ => ⟨[], rfl, fun i h => by simp at h⟩
  | n + 1, h => by
    obtain ⟨ys, h1, h2⟩ := choose_list n (fun i hi => h i (by omega))
    obtain ⟨y, hy⟩ := h n (by omega)
    refine ⟨ys ++ [y], by simp [h1], fun i hi => ?_⟩
    by_cases hlt : i < ys.length
    · rw [List.getElem_append_left hlt]; exact h2 i hlt
    · have : i = ys.length := by simp at hi; omega
      subst this
      rw [List.getElem_append_right (Nat.le_refl _)]
      simp only [Nat.sub_self, List.getElem_cons_zero, h1]; exact hy

theorem rowR_of {α : Type} {R : α → List Value → Prop} {w : Nat} : ∀ (xs : List α) (cs : List Value), (∀ i (h : i < xs.length), w * (i + 1) ≤ cs.length ∧ R xs[i] ((cs.drop (w * i)).take w)) → rowR R w xs cs
  | [], _, _ => trivial
  | x :: xs, cs, h => by
    have h0 := h 0 (by simp)
    refine ⟨by have := h0.1; omega, by simpa using h0.2, rowR_of xs (cs.drop w) (fun i hi => ?_)⟩
    obtain ⟨a1, a2⟩ := h (i + 1) (by simp; omega)
    have e : w * (i + 1) = w * i + w := by rw [Nat.mul_add, Nat.mul_one]
    refine ⟨?_, ?_⟩
    · rw [List.length_drop]
      have : w * (i + 1 + 1) = w * (i + 1) + w := by exact Nat.mul_succ w (i + 1)
      omega
    · rw [List.drop_drop]
      have e2 : w + w * i = w * (i + 1) := by omega
      rw [e2]
      simpa using a2

theorem cells_of {w : World} {a : Addr} {n : Nat} {cs : List Value} (h : w.cells? 0 a n = some cs) (hn : 0 < n) : a.spot = none ∧ ∃ c t fr, w.heap[a.block]? = some (.cells c t fr) ∧ a.off + n ≤ c.size ∧ (c.toList.drop a.off).take n = cs := by
  obtain ⟨_, hl, hc⟩ := World.cells?_some h
  have h0 := hc 0 hn
  have ha0 : a.add 0 = a := by simp [Addr.add]
  rw [ha0] at h0
  have hs : ∃ v, cs[0]? = some v := ⟨cs[0], by simp⟩
  obtain ⟨v0, hv0⟩ := hs
  rw [hv0] at h0
  unfold World.cell? at h0
  split at h0
  · rename_i c t fr hb
    have hsp : a.spot = none := by
      cases hspot : a.spot with
      | none => rfl
      | some s => rw [hspot] at h0; simp at h0
    have each : ∀ i, i < n → c[a.off + i]? = cs[i]? := by
      intro i hi
      have h1 := hc i hi
      rw [← h1]
      unfold World.cell?
      have hb2 : (a.add i).block = a.block := block_add a i
      rw [hb2, hb]
      have hs2 : (a.add i).spot = none := by unfold Addr.add; split <;> simp [hsp]
      have ho2 : (a.add i).off = a.off + i := by unfold Addr.add; split <;> simp_all
      simp only [hs2, ho2, Option.isSome_none]
      rfl
    have hsz : a.off + n ≤ c.size := by
      have h1 := each (n - 1) (by omega)
      have h2 : cs[n - 1]? = some cs[n - 1] := by simp
      rw [h2] at h1
      have := (Array.getElem?_eq_some_iff.1 h1).1
      omega
    refine ⟨hsp, c, t, fr, hb, hsz, ?_⟩
    apply List.ext_getElem?
    intro i
    by_cases hi : i < n
    · rw [List.getElem?_take_of_lt hi, List.getElem?_drop, Array.getElem?_toList, each i hi]
    · rw [List.getElem?_eq_none (by rw [List.length_take]; omega), List.getElem?_eq_none (by omega)]
  · cases h0

section
variable {H : Type} {enc : TypeId × Value → H} {P : Program} {w : World} {spare : Nat → Bool} {held : Bool}

theorem start_pre {b : Nat} {c : Array Value} {t : TypeId} {fr : Nat × Nat} (h : w.heap[b]? = some (.cells c t fr)) : (Gh.start w).pre b = some c.toList := by
  simp [Gh.pre, Gh.start, h]

theorem reads : ∀ (n : Nat) (t : TypeId) (k : Kd) (fuel : Nat) (cs : List Value) (x : DataW H × List MemPlace), tyK P n t k = true → DataW.trod enc P w 0 spare held fuel t cs = some x → ∃ y : k.den, Kr (Gh.start w) k y cs ∧ k.Fits y
  | 0, _, _, _, _, _, h, _ => by simp [tyK] at h
  | n + 1, t, k, fuel, cs, x, h, hx => by
    unfold tyK at h
    split at h
    · rename_i a b hu
      have : a = b := by simpa using h
      subst this
      obtain ⟨m, rfl, _, hw⟩ := DataW.trod_int hu hx
      exact ⟨m, by simp [Kr], hw⟩
    · rename_i hu
      obtain ⟨b, rfl, _⟩ := DataW.trod_bool hu hx
      exact ⟨b, by simp [Kr], trivial⟩
    · rename_i hu
      obtain ⟨s, rfl, _, hs⟩ := DataW.trod_string hu hx
      refine ⟨s.data.toList, by simp [Kr], ?_⟩
      have e : s.data.toList.length = s.size := by rw [Array.length_toList]; rfl
      unfold maxLen at hs
      simp only [Kd.Fits, e]; omega
    · rename_i e q hu
      simp only [Bool.and_eq_true, beq_iff_eq, decide_eq_true_eq] at h
      obtain ⟨⟨h1, h2⟩, h3⟩ := h
      rcases DataW.trod_slice hu hx with ⟨rfl, _⟩ | ⟨a, len, cap, elems, rest, m, _, rfl, _, _, hlc, hcap, hlen, hel, _, _⟩
      · exact ⟨[], ⟨none, 0, by simp, Nat.le_refl _, .inl rfl⟩, Nat.zero_le _, fun x hx => by simp at hx⟩
      · rw [h2] at hel
        have each : ∀ i, i < len → ∃ y : q.den, ∃ c, w.cells? 0 (a.add (i * q.w)) q.w = some c ∧ Kr (Gh.start w) q y c ∧ q.Fits y := by
          intro i hi
          have h4 := hel i hi
          rw [List.getElem?_eq_getElem (by omega), Option.bind_eq_some_iff] at h4
          obtain ⟨c, hc, hd⟩ := h4
          obtain ⟨y, hy, hf⟩ := reads n e q m c _ h1 hd
          exact ⟨y, c, hc, hy, hf⟩
        obtain ⟨ys, hyl, hy⟩ := choose_list len each
        have hcl : len ≤ 9223372036854775807 := by unfold maxLen at hcap; omega
        refine ⟨ys, ⟨some a, cap, by rw [hyl], by omega, ?_⟩, by omega, fun y hm => ?_⟩
        · cases hlz : ys with
          | nil => exact .inl rfl
          | cons y0 r =>
            rw [← hlz]
            have hpos : 0 < ys.length := by rw [hlz]; simp
            obtain ⟨c0, hc0, _, _⟩ := hy 0 hpos
            have ha0 : a.add (0 * q.w) = a := by simp [Addr.add]
            rw [ha0] at hc0
            obtain ⟨hsp, c, ct, fr, hb, _, _⟩ := cells_of hc0 h3
            refine .inr ⟨a.block, a.off, c.toList, by rw [show a = ⟨a.block, a.off, a.spot⟩ from rfl, hsp], start_pre hb, rowR_of _ _ (fun i hi => ?_)⟩
            obtain ⟨ci, hci, hk, _⟩ := hy i hi
            obtain ⟨_, c', ct', fr', hb', hsz, htk⟩ := cells_of hci h3
            have hbl : (a.add (i * q.w)).block = a.block := block_add a _
            have hof : (a.add (i * q.w)).off = a.off + i * q.w := by unfold Addr.add; split <;> simp_all
            rw [hbl, hb] at hb'
            simp only [Option.some.injEq, Obj.cells.injEq] at hb'
            obtain ⟨rfl, _, _⟩ := hb'
            rw [hof] at hsz htk
            have e1 : q.w * i = i * q.w := Nat.mul_comm _ _
            have e2 : q.w * (i + 1) = i * q.w + q.w := by rw [Nat.mul_add, Nat.mul_one, e1]
            refine ⟨?_, ?_⟩
            · rw [List.length_drop, Array.length_toList]; omega
            · rw [List.drop_drop, e1, htk]; exact hk
        · obtain ⟨i, hi, rfl⟩ := List.mem_iff_getElem.1 hm
          obtain ⟨_, _, _, hf⟩ := hy i hi
          exact hf
    · rename_i fs a b hu
      obtain ⟨xs, m, _, _, hcl, hxl, hf⟩ := DataW.trod_struct hu hx
      simp only [Bool.and_eq_true, beq_iff_eq] at h
      obtain ⟨h, hcw⟩ := h
      have go : ∀ (l : List Field) (k : Kd) (off i : Nat), fieldsK P (tyK P n) off l k = true → fs.toList.drop i = l → ∃ y : k.den, Kr (Gh.start w) k y ((cs.drop off).take k.w) ∧ k.Fits y := by
        intro l
        induction l with
        | nil =>
          intro k off i hk _
          cases k <;> simp [fieldsK] at hk
          exact ⟨(), by simp [Kr, Kd.w], trivial⟩
        | cons f r ih =>
          intro k off i hk hd
          cases k with
          | pair a b =>
            simp only [fieldsK, Bool.and_eq_true, beq_iff_eq] at hk
            obtain ⟨⟨⟨k1, k2⟩, k3⟩, k4⟩ := hk
            have hfi : fs[i]? = some f := by
              have : (fs.toList.drop i)[0]? = some f := by rw [hd]; rfl
              rw [List.getElem?_drop] at this
              simpa using this
            have hil : i < fs.size := (Array.getElem?_eq_some_iff.1 hfi).1
            have h4 := hf i f hfi
            rw [k2, k3, List.getElem?_eq_getElem (by omega)] at h4
            obtain ⟨y1, hy1, hf1⟩ := reads n f.type a m _ _ k1 h4
            have hd2 : fs.toList.drop (i + 1) = r := by rw [← List.tail_drop, hd]; rfl
            obtain ⟨y2, hy2, hf2⟩ := ih b (off + a.w) (i + 1) k4 hd2
            refine ⟨(y1, y2), ⟨_, _, ?_, hy1, hy2⟩, hf1, hf2⟩
            simp only [Kd.w]
            rw [List.take_add, List.drop_drop]
          | _ => simp [fieldsK] at hk
      obtain ⟨y, hy, hf2⟩ := go fs.toList (.pair a b) 0 0 h (by simp)
      rw [List.drop_zero, List.take_of_length_le (by omega)] at hy
      exact ⟨y, hy, hf2⟩
    · cases h

theorem reads_VR {n : Nat} {t : TypeId} {k : Kd} {base : Nat} {v : Value} {d : DataW H} {ps : List MemPlace} (hk : tyK P n t k = true) (hval : Value.okWide P w .any base t v) (h : DataW.Trod enc P w 0 spare held t v d ps) :
    ∃ y : k.den, VR (Gh.start w) k y v ∧ k.Fits y := by
  obtain ⟨fuel, hf⟩ := h
  obtain ⟨y, hy, hfit⟩ := reads n t k fuel _ _ hk hf
  refine ⟨y, ?_, hfit⟩
  cases n with
  | zero => simp [tyK] at hk
  | succ n =>
    unfold tyK at hk
    split at hk
    · rename_i a b hu
      obtain ⟨m, rfl⟩ := okWide_int hu hval
      simpa [VR, Kd.agg, Value.cells] using hy
    · rename_i hu
      obtain ⟨m, rfl⟩ := okWide_bool hu hval
      simpa [VR, Kd.agg, Value.cells] using hy
    · rename_i hu
      obtain ⟨m, rfl⟩ := okWide_string hu hval
      simpa [VR, Kd.agg, Value.cells] using hy
    · rename_i e q hu
      obtain ⟨a, len, cap, rfl⟩ := okWide_slice hu hval
      simpa [VR, Kd.agg, Value.cells] using hy
    · rename_i fs a b hu
      obtain ⟨cs, rfl, _⟩ := okWide_struct hu hval
      exact ⟨cs, rfl, hy⟩
    · cases hk

/-- What the start leaves as it was, in the kit's words. -/
theorem below_of {w w' : World} (h : (w'.os = w.os ∧ w'.tape = w.tape ∧ w'.output = w.output) ∧ w.heap.size ≤ w'.heap.size ∧ ∀ b, b < w.heap.size → w'.heap[b]? = w.heap[b]?) : Below w.heap.size w w' :=
  ⟨h.1.1, h.1.2.1, h.1.2.2, h.2.1, h.2.2⟩

/-- A law, called at the start: it returns true, and leaves all as it was. -/
theorem law_run {f : Nat} {As : List En} {T T' : Tabs} (hS : Spec P f As T (.kv .bool true) T') (hT : ∀ t tab, T t = some tab → tab.xs.length = 0) {args : List Value} (hA : All2 (EnR (Gh.start w)) As args) :
    Calls P f args.toArray w fun e w' => e = .returned (.bool true) ∧ Below w.heap.size w w' := by
  refine (hS.start hT hA).mono ?_
  intro e w' hp
  cases e with
  | returned v =>
    obtain ⟨⟨G, hv⟩, hb⟩ := hp
    refine ⟨?_, below_of hb⟩
    have : [v] = [.bool true] := hv
    simpa using this
  | panicked c => exact hp.elim
  | outgrown => exact hp.elim
end
end Go.Proofs.Ytlfemhkabjafeaa.M
