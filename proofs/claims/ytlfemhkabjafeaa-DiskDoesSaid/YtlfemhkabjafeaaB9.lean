/- Own library, part 9: struct values and slices made in place, new variables, new objects, appends. -/
import Derived.Test.YtlfemhkabjafeaaB8
set_option linter.unusedVariables false
set_option linter.unusedSimpArgs false
namespace Go.Proofs.Ytlfemhkabjafeaa.M

/-- A struct's value out of its parts (by field, rising), zero elsewhere. zc: the zero value's cells. -/
def bldK (P : Program) (fields : Array Field) (zc : List Value) : (K : Kd) → Nat → Nat → List (Nat × En) → Option K.den
  | .unit, f, off, parts => (match parts with
    | [] => if off = zc.length then some () else none
    | _ => none)
  | .pair a b, f, off, parts => (match fields[f]? with
    | some fd => if fd.offset = off ∧ sizeT P fd.type = some a.w then
        (match parts with
        | (j, e) :: r => (match Nat.beq j f with
          | true => (match coeK a e, bldK P fields zc b (f + 1) (off + a.w) r with
            | some x, some y => some (x, y)
            | _, _ => none)
          | false => (match isZeroC a ((zc.drop off).take a.w), bldK P fields zc b (f + 1) (off + a.w) parts with
            | some [], some y => some (zeroK a, y)
            | _, _ => none))
        | [] => (match isZeroC a ((zc.drop off).take a.w), bldK P fields zc b (f + 1) (off + a.w) [] with
          | some [], some y => some (zeroK a, y)
          | _, _ => none)) else none
    | none => none)
  | _, _, _, _ => none

def partsE (look : Nat → Option En) : List (Nat × Operand) → Option (List (Nat × En))
  | [] => some []
  | (j, x) :: r => (match opnd look [] x, partsE look r with
    | some e, some l => some ((j, e) :: l)
    | _, _ => none)

def placesE (P : Program) (fs : List Field) : Option (List (Nat × Nat)) := fs.mapM (fun f => (P.info? f.type).map fun i => (f.offset, i.size))

def buildE (P : Program) (ops : Array Oper) (E : Env) (i : Nat) (K : Kd) : Option (K.den × Option Nat) :=
  match ops[i]? with
  | some o => (match goes ops (look E []) o, o.op with
    | true, .build t parts => (match P.underlying t, zeroOf P t, partsE (look E []) parts.toList with
      | some (.struct fields), some (.agg zc), some ps => (match placesE P fields.toList, bldK P fields zc.toList K 0 0 ps with
        | some _, some x => some (x, o.dst)
        | _, _ => none)
      | _, _, _ => none)
    | _, _ => none)
  | none => none

section
variable {P : Program} {w : World} {G : Gh} {T T' : Tabs} {Ls Ls' : List LS} {a : Act} {N : Nat} {E : Env} {ops : Array Oper} {Q : Exit → Act → World → Prop}

/-- An operation that comes to a value. -/
theorem stepV {i : Nat} {o : Oper} {e : En} (ho : ops[i]? = some o) (hg : goes ops (look E []) o = true) (hd : dstOK o.dst N = true) (hE : EnvR G N a E)
    (h : ∃ v w' G', (execOp a.eval o).run P w = .ok (.value v) w' ∧ G.le G' ∧ EnR G' e v ∧ Holds w' G' T' Ls')
    (k : ∀ a' w' G', G.le G' → EnvR G' N a' (putE o.dst e E) → Holds w' G' T' Ls' → wpFrom P ops Q (i + 1) a' w') : wpFrom P ops Q i a w := by
  obtain ⟨v, w', G', hr, hle, hv, hH⟩ := h
  exact wpFrom_value ho (goes_ok (CurR_start hE) hg) hr (k _ _ G' hle ((hE.mono hle).putO hd hv) hH)

/-- An operation that comes to none. -/
theorem stepS {i : Nat} {o : Oper} (ho : ops[i]? = some o) (hg : goes ops (look E []) o = true) (hdn : o.dst = none) (hE : EnvR G N a E)
    (h : ∃ w' G', (execOp a.eval o).run P w = .ok .skip w' ∧ G.le G' ∧ Holds w' G' T' Ls')
    (k : ∀ w' G', G.le G' → EnvR G' N a E → Holds w' G' T' Ls' → wpFrom P ops Q (i + 1) a w') : wpFrom P ops Q i a w := by
  obtain ⟨w', G', hr, hle, hH⟩ := h
  rw [wpFrom_cons ho, if_pos (goes_ok (CurR_start hE) hg)]
  refine .inl ?_
  unfold Oper.wp
  rw [hr, Oper.upon_skip, hdn]
  exact k w' G' hle (hE.mono hle) hH

/-! ### Struct values -/
theorem foldl_set (vs : Array Value) (off : Nat) : ∀ (cs : Array Value), off + vs.size ≤ cs.size →
    (vs.zipIdx.foldl (fun cs (c, j) => cs.setIfInBounds (off + j) c) cs).toList = splice cs.toList vs.toList off := by
  intro cs hl
  have key : ∀ (l : List Value) (k : Nat) (cs : Array Value), off + k + l.length ≤ cs.size →
      ((l.zipIdx k).foldl (fun (cs : Array Value) (p : Value × Nat) => cs.setIfInBounds (off + p.2) p.1) cs).toList = splice cs.toList l (off + k) := by
    intro l
    induction l with
    | nil => intro k cs _; simp [splice]
    | cons x l ih =>
      intro k cs hk
      simp only [List.zipIdx_cons, List.foldl_cons]
      simp at hk
      rw [ih (k + 1) _ (by simp; omega)]
      have := list_seg_step cs.toList (off + k) x l (by simp; omega)
      simp only [splice, List.length_cons]
      rw [show off + (k + 1) = off + k + 1 by omega]
      rw [Array.toList_setIfInBounds]
      rw [this]
  have := key vs.toList 0 cs (by simpa using hl)
  simp only [Nat.add_zero] at this
  rw [← this]
  congr 1
  rw [← Array.foldl_toList]
  simp

theorem fill_cons {place : Nat → Option (Nat × Nat)} {cells : Array Value} {i off size : Nat} {v : Value} {rest : List (Nat × Value)} (hp : place i = some (off, size)) (hs : v.cells.size = size) (hl : off + size ≤ cells.size) :
    Instr.fill place cells ((i, v) :: rest) = Instr.fill place (splice cells.toList v.cells.toList off).toArray rest := by
  have e : (splice cells.toList v.cells.toList off).toArray = v.cells.zipIdx.foldl (fun cs (c, j) => cs.setIfInBounds (off + j) c) cells := by
    apply Array.ext'
    rw [foldl_set _ _ _ (by omega)]
  rw [e]
  conv => lhs; unfold Instr.fill
  rw [hp]
  simp only [hs, ne_eq, not_true_eq_false, decide_false, Bool.false_or, decide_eq_true_eq]
  rw [if_neg (by omega)]

theorem bldK_ok {fields : Array Field} {zc : List Value} {pl : Nat → Option (Nat × Nat)} (hpl : ∀ (f : Nat) (fd : Field) (sz : Nat), fields[f]? = some fd → sizeT P fd.type = some sz → pl f = some (fd.offset, sz)) :
    ∀ {K : Kd} {x : K.den} {f off : Nat} {parts : List (Nat × En)} {vs : List (Nat × Value)} {cells : Array Value},
      bldK P fields zc K f off parts = some x → All2 (fun (p : Nat × En) (q : Nat × Value) => q.1 = p.1 ∧ EnR G p.2 q.2) parts vs →
      off ≤ zc.length → cells.toList.length = zc.length → cells.toList.drop off = zc.drop off →
      ∃ new, Instr.fill pl cells vs = some (cells.toList.take off ++ new).toArray ∧ Kr G K x new ∧ off + new.length = zc.length
  | .unit, x, f, off, parts, vs, cells, h, hv, h0, h1, h2 => by
    unfold bldK at h
    split at h
    · split at h
      · rename_i he
        cases vs with
        | nil =>
          refine ⟨[], ?_, rfl, by simpa using he⟩
          simp only [Instr.fill, List.append_nil]
          congr 1
          apply Array.ext'
          simp only
          rw [List.take_of_length_le (by omega)]
        | cons => exact hv.elim
      · simp at h
    · simp at h
  | .pair a b, x, f, off, parts, vs, cells, h, hv, h0, h1, h2 => by
    unfold bldK at h
    split at h
    · rename_i fd hfd
      split at h
      · rename_i hc
        obtain ⟨hoff, hsz⟩ := hc
        have hp := hpl f fd _ hfd hsz
        rw [hoff] at hp
        -- a zero part
        have zero : ∀ {ps : List (Nat × En)} {y : b.den}, isZeroC a ((zc.drop off).take a.w) = some [] → bldK P fields zc b (f + 1) (off + a.w) ps = some y → All2 (fun (p : Nat × En) (q : Nat × Value) => q.1 = p.1 ∧ EnR G p.2 q.2) ps vs →
            ∃ new, Instr.fill pl cells vs = some (cells.toList.take off ++ new).toArray ∧ Kr G (.pair a b) (zeroK a, y) new ∧ off + new.length = zc.length := by
          intro ps y hz hy hvs
          obtain ⟨c1, hc1, hk1⟩ := isZeroC_ok (G := G) hz
          simp only [List.append_nil] at hc1
          have hl1 := Kr_len hk1
          have hlen : off + a.w ≤ zc.length := by
            have : ((zc.drop off).take a.w).length = a.w := by rw [hc1]; exact hl1
            rw [List.length_take, List.length_drop] at this; omega
          obtain ⟨new, hn1, hn2, hn3⟩ := bldK_ok hpl hy hvs hlen h1 (by rw [← List.drop_drop, h2, List.drop_drop])
          refine ⟨c1 ++ new, ?_, ⟨c1, new, rfl, hk1, hn2⟩, by rw [List.length_append, hl1]; omega⟩
          rw [hn1]
          congr 2
          rw [← List.append_assoc]
          congr 1
          rw [← hc1, ← h2, List.take_add]
        split at h
        · rename_i j e r
          split at h
          · rename_i hj
            have hj' := Nat.eq_of_beq_eq_true hj
            subst hj'
            split at h
            · rename_i y z hy hz
              simp only [Option.some.injEq] at h; subst h
              cases vs with
              | nil => exact hv.elim
              | cons q vs =>
                obtain ⟨⟨hq1, hq2⟩, hvs⟩ := hv
                obtain ⟨j', v⟩ := q
                simp only at hq1; subst hq1
                have hva := VR_cells (coeK_ok hy hq2)
                have hla := Kr_len hva
                have hsv : v.cells.size = a.w := by simpa using hla
                have hlen : off + a.w ≤ zc.length := by
                  -- the rest is built behind it
                  have := bldK_off hz
                  omega
                have hcs : cells.size = zc.length := by simpa using h1
                rw [fill_cons hp hsv (by omega)]
                obtain ⟨new, hn1, hn2, hn3⟩ := bldK_ok (cells := (splice cells.toList v.cells.toList off).toArray) hpl hz hvs hlen (by simp only; rw [splice_len (by rw [hla]; omega)]; exact h1) (by
                  simp only [splice]
                  rw [List.append_assoc, List.drop_append, List.length_take, h1, Nat.min_eq_left (by omega)]
                  rw [List.drop_of_length_le (by rw [List.length_take]; omega), List.nil_append]
                  rw [show off + a.w - off = a.w by omega, List.drop_append, List.drop_of_length_le (by rw [hla]; omega), List.nil_append, hla, Nat.sub_self, List.drop_zero]
                  rw [← List.drop_drop, h2, List.drop_drop])
                refine ⟨v.cells.toList ++ new, ?_, ⟨_, new, rfl, hva, hn2⟩, by rw [List.length_append, hla]; omega⟩
                rw [hn1]
                congr 2
                simp only [splice]
                rw [← List.append_assoc]
                congr 1
                rw [List.take_append_of_le_length (by simp; omega), List.take_of_length_le (by simp; omega)]
            · simp at h
          · split at h
            · rename_i hz' y hz hy
              simp only [Option.some.injEq] at h; subst h
              exact zero (by assumption) hy hv
            · simp at h
        · split at h
          · rename_i hz' y hz hy
            simp only [Option.some.injEq] at h; subst h
            exact zero (by assumption) hy hv
          · simp at h
      · simp at h
    · simp at h
  | .int _, _, _, _, _, _, _, h, _, _, _, _ => by simp [bldK] at h
  | .bool, _, _, _, _, _, _, h, _, _, _, _ => by simp [bldK] at h
  | .str, _, _, _, _, _, _, h, _, _, _, _ => by simp [bldK] at h
  | .ptr _, _, _, _, _, _, _, h, _, _, _, _ => by simp [bldK] at h
  | .list _, _, _, _, _, _, _, h, _, _, _, _ => by simp [bldK] at h
  where
  bldK_off {fields : Array Field} {zc : List Value} : ∀ {K : Kd} {x : K.den} {f off : Nat} {parts : List (Nat × En)}, bldK P fields zc K f off parts = some x → off ≤ zc.length
    | .unit, x, f, off, parts, h => by
      unfold bldK at h
      split at h
      · split at h
        · omega
        · simp at h
      · simp at h
    | .pair a b, x, f, off, parts, h => by
      unfold bldK at h
      split at h
      · split at h
        · split at h
          · split at h
            · split at h
              · rename_i hz; have := bldK_off hz; omega
              · simp at h
            · split at h
              · rename_i hz; have := bldK_off hz; omega
              · simp at h
          · split at h
            · rename_i hz; have := bldK_off hz; omega
            · simp at h
        · simp at h
      · simp at h
    | .int _, _, _, _, _, h => by simp [bldK] at h
    | .bool, _, _, _, _, h => by simp [bldK] at h
    | .str, _, _, _, _, h => by simp [bldK] at h
    | .ptr _, _, _, _, _, h => by simp [bldK] at h
    | .list _, _, _, _, _, h => by simp [bldK] at h

theorem placesE_get : ∀ {fs : List Field} {r : List (Nat × Nat)}, placesE P fs = some r → ∀ (i : Nat) (fd : Field) (sz : Nat), fs[i]? = some fd → sizeT P fd.type = some sz → r[i]? = some (fd.offset, sz)
  | [], r, h, i, fd, sz, hi, hs => by simp at hi
  | f :: fs, r, h, i, fd, sz, hi, hs => by
    unfold placesE at h
    simp only [List.mapM_cons, Option.bind_eq_bind, Option.pure_def] at h
    cases hq : P.info? f.type with
    | none => simp [hq] at h
    | some q =>
      cases hr : fs.mapM (fun f => (P.info? f.type).map fun i => (f.offset, i.size)) with
      | none => simp [hq, hr] at h
      | some rest =>
        simp [hq, hr] at h
        subst h
        cases i with
        | zero =>
          simp at hi; subst hi
          simp [sizeT, hq] at hs
          simp [hs]
        | succ i => exact placesE_get (fs := fs) (r := rest) hr i fd sz (by simpa using hi) hs

theorem partsE_ok {L : Nat → Option En} (hL : CurR G a L) : ∀ {xs : List (Nat × Operand)} {ps : List (Nat × En)}, partsE L xs = some ps →
    All2 (fun (p : Nat × En) (q : Nat × Value) => q.1 = p.1 ∧ EnR G p.2 q.2) ps (xs.map fun p => (p.1, a.eval p.2))
  | [], ps, h => by simp [partsE] at h; subst h; trivial
  | (j, x) :: r, ps, h => by
    unfold partsE at h
    split at h
    · rename_i e l he hl
      simp only [Option.some.injEq] at h; subst h
      exact ⟨⟨rfl, opnd_ok hL (by simp) he⟩, partsE_ok hL hl⟩
    · simp at h

theorem buildE_run (K : Kd) (x : K.den) {d : Option Nat} {i : Nat} (hK : K.agg = true) (hE : EnvR G N a E) (hb : buildE P ops E i K = some (x, d)) :
    ∃ o v, ops[i]? = some o ∧ goes ops (look E []) o = true ∧ o.dst = d ∧ (execOp a.eval o).run P w = .ok (.value v) w ∧ EnR G (.kv K x) v := by
  unfold buildE at hb
  split at hb
  · rename_i o ho
    split at hb
    · rename_i t parts hg hop
      split at hb
      · rename_i fields zc ps hu hz hps
        split at hb
        · rename_i r x' hr hx
          simp only [Option.some.injEq, Prod.mk.injEq] at hb
          obtain ⟨rfl, rfl⟩ := hb
          have hpa := partsE_ok (CurR_start hE) hps
          obtain ⟨new, h1, h2, h3⟩ := bldK_ok (P := P) (pl := (r.toArray[·]?)) (fun f fd sz hf hs => by
            have := placesE_get hr f fd sz (by simpa using hf) hs
            simpa using this) hx hpa (Nat.zero_le _) rfl rfl
          simp only [List.take_zero, List.nil_append] at h1
          have hrun : (Instr.build t (parts.map fun p => (p.1, a.eval p.2))).run P w = .ok (.agg new.toArray) w := by
            refine run_build w t _ _ ?_
            unfold Program.built
            unfold zeroOf at hz
            cases hit : P.info? t with
            | none => rw [hit] at hz; simp at hz
            | some it =>
              rw [hit] at hz
              simp only at hz
              simp only [hu, hz]
              unfold placesE at hr
              rw [hr]
              simp only [Value.cells, Array.toList_map]
              exact h1
          refine ⟨o, .agg new.toArray, ho, hg, rfl, ?_, ?_⟩
          · simp only [execOp, hop]
            exact run_val hrun
          · show VR G K x' _
            unfold VR
            rw [hK]
            exact ⟨_, rfl, by simpa using h2⟩
        · simp at hb
      · simp at hb
    · simp at hb
  · simp at hb

/-! ### Slices of given elements -/

/-- A struct's value is built. -/
theorem stepBuild (K : Kd) (x : K.den) {d : Option Nat} {i : Nat} (hK : K.agg = true) (hE : EnvR G N a E) (hb : buildE P ops E i K = some (x, d)) (hd : dstOK d N = true)
    (k : ∀ a', EnvR G N a' (putE d (.kv K x) E) → wpFrom P ops Q (i + 1) a' w) : wpFrom P ops Q i a w := by
  obtain ⟨o, v, h1, h2, h3, h4, h5⟩ := buildE_run (P := P) (w := w) K x hK hE hb
  subst h3
  exact wpFrom_value h1 (goes_ok (CurR_start hE) h2) h4 (k _ (hE.putO hd h5))

def elemsE (a : Kd) (look : Nat → Option En) : List (Nat × Operand) → Nat → Option (List a.den)
  | [], _ => some []
  | (j, x) :: r, n => (match Nat.beq j n, opnd look [] x with
    | true, some e => (match coeK a e, elemsE a look r (n + 1) with
      | some y, some l => some (y :: l)
      | _, _ => none)
    | _, _ => none)

def buildSE (P : Program) (ops : Array Oper) (E : Env) (i : Nat) (K : Kd) : Option (List K.den × Option Nat) :=
  match ops[i]? with
  | some o => (match goes ops (look E []) o, o.op with
    | true, .buildSlice t len parts => (match P.underlying t with
      | some (.slice el) => (match sizeT P el, zeroOf P el, elemsE K (look E []) parts.toList 0 with
        | some sz, some z, some xs => if sz = K.w ∧ z.cells.size = sz ∧ xs.length = len ∧ 0 < sz ∧ len * sz ≤ 16777216 then some (xs, o.dst) else none
        | _, _, _ => none)
      | _ => none)
    | _, _ => none)
  | none => none

theorem splice_splice {cs v new : List Value} {o : Nat} (h : o + v.length + new.length ≤ cs.length) : splice (splice cs v o) new (o + v.length) = splice cs (v ++ new) o := by
  unfold splice
  have e0 : (cs.take o ++ v).length = o + v.length := by simp; omega
  rw [List.take_left' e0, ← List.drop_drop, List.drop_left' e0, List.drop_drop]
  simp [Nat.add_assoc]

theorem elemsE_ok {K : Kd} {L : Nat → Option En} (hL : CurR G a L) {sz : Nat} (hsz : sz = K.w) : ∀ {xs : List (Nat × Operand)} {n : Nat} {l : List K.den}, elemsE K L xs n = some l →
    ∀ (cells : Array Value), (n + l.length) * sz ≤ cells.size →
    ∃ new, Instr.fill (fun i => some (i * sz, sz)) cells (xs.map fun p => (p.1, a.eval p.2)) = some (splice cells.toList new (n * sz)).toArray ∧ new.length = l.length * sz ∧ rowR (Kr G K) K.w l new ∧ ∀ u ∈ new, u.oneCell' = true
  | [], n, l, h, cells, hc => by
    simp [elemsE] at h; subst h
    exact ⟨[], by simp [Instr.fill, splice], by simp, trivial, by simp⟩
  | (j, x) :: r, n, l, h, cells, hc => by
    unfold elemsE at h
    split at h
    · rename_i e hj he
      have hj' := Nat.eq_of_beq_eq_true hj
      subst hj'
      split at h
      · rename_i y l' hy hl
        simp only [Option.some.injEq] at h; subst h
        have hva := VR_cells (coeK_ok hy (opnd_ok hL (by simp) he))
        have hla := Kr_len hva
        simp only [List.length_cons, Nat.add_mul, Nat.succ_mul] at hc
        have hc1 : cells.toList.length = cells.size := by simp
        obtain ⟨new, h1, h2, h3, h4⟩ := elemsE_ok hL hsz hl (splice cells.toList (a.eval x).cells.toList (j * sz)).toArray (by
          simp only [List.size_toArray]
          rw [splice_len (by rw [hla, hc1]; omega), hc1]
          simp only [Nat.add_mul, Nat.one_mul]; omega)
        refine ⟨(a.eval x).cells.toList ++ new, ?_, by rw [List.length_append, hla, h2]; simp [Nat.succ_mul]; omega, ?_, ?_⟩
        · simp only [List.map_cons]
          rw [fill_cons (off := j * sz) (size := sz) rfl (by rw [hsz]; simpa using hla) (by omega), h1]
          congr 2
          have hsz' : (a.eval x).cells.toList.length = sz := by rw [hla, hsz]
          rw [show (j + 1) * sz = j * sz + (a.eval x).cells.toList.length by rw [hsz', Nat.succ_mul]]
          exact splice_splice (by rw [hsz', h2, hc1]; omega)
        · refine ⟨by rw [List.length_append, hla]; omega, ?_, ?_⟩
          · rw [List.take_append_of_le_length (by omega), List.take_of_length_le (by omega)]; exact hva
          · rw [List.drop_append_of_le_length (by omega), List.drop_of_length_le (by omega)]; exact h3
        · intro u hu
          rcases List.mem_append.1 hu with hu | hu
          · exact Kr_cells1 hva u hu
          · exact h4 u hu
      · simp at h
    · simp at h

theorem Holds.allocPub (h : Holds w G T Ls) (o : Obj) : Holds (w.alloc o) (G.set w.heap.size (.pub o)) T Ls :=
  h.alloc o _ T Ls (by unfold BlockOK; rw [Gh.set_same]; exact heap_alloc_new' w o) (fun b t i _ tab x h1 _ => .inl h1) (fun _ _ _ => rfl) (fun l hl => .inl hl) h.nd
    (fun t tab i h1 h2 => by
      obtain ⟨b, hb⟩ := h.ex t tab i h1 h2
      exact ⟨b, by rw [Gh.set_ne _ _ (by have := h.lt (b := b) (by rw [hb]; simp); omega)]; exact hb⟩)
    (fun t i h1 => by simp at h1) (fun t i f h1 => by simp at h1) (fun t tab h1 => ⟨[], by simpa using h1⟩)

theorem buildSE_run (K : Kd) (xs : List K.den) {d : Option Nat} {i : Nat} (hE : EnvR G N a E) (hH : Holds w G T Ls) (hb : buildSE P ops E i K = some (xs, d)) :
    ∃ o v w' G', ops[i]? = some o ∧ goes ops (look E []) o = true ∧ o.dst = d ∧ (execOp a.eval o).run P w = .ok (.value v) w' ∧ G.le G' ∧ EnR G' (.pl K xs) v ∧ Holds w' G' T Ls ∧ ∀ b, G.role b ≠ .free → w'.heap[b]? = w.heap[b]? ∧ G'.role b = G.role b := by
  unfold buildSE at hb
  split at hb
  · rename_i o ho
    split at hb
    · rename_i t len parts hg hop
      split at hb
      · rename_i el hu
        split at hb
        · rename_i sz z xs' hs hz hxs
          split at hb
          · rename_i hc
            obtain ⟨c1, c2, c3, c4, c5⟩ := hc
            simp only [Option.some.injEq, Prod.mk.injEq] at hb
            obtain ⟨rfl, rfl⟩ := hb
            obtain ⟨new, h1, h2, h3, h4⟩ := elemsE_ok (CurR_start hE) c1 hxs ((Array.range (len * sz)).map (z.cells[· % z.cells.size]!)) (by simp [c3])
            have hsp : splice ((Array.range (len * sz)).map (z.cells[· % z.cells.size]!)).toList new (0 * sz) = new := by
              rw [Nat.zero_mul]
              exact splice_all (by rw [h2, c3]; simp)
            rw [hsp] at h1
            refine ⟨o, .slice (some ⟨w.heap.size, 0, none⟩) len len, w.alloc (.cells new.toArray el), G.set w.heap.size (.pub (.cells new.toArray el)), ho, hg, rfl, ?_, Gh.le_new hH _, ?_, hH.allocPub _, fun b hb => have hne : b ≠ w.heap.size := fun he => hb (hH.free b (by omega)); ⟨heap_alloc_ne w _ hne, Gh.set_ne _ _ hne⟩⟩
            · simp only [execOp, hop]
              refine run_val ?_
              unfold Instr.buildSlice
              rw [run_und hu]
              have hz' : (zeroValue el).run P w = .ok z w := by
                unfold zeroOf at hz
                split at hz
                · rename_i it hit; simp [zeroValue, typeInfo, hit, hz]
                · simp at hz
              simp only [Sem.run_bind, run_sizeOf hs, Result.andThen_ok]
              rw [if_neg (by omega)]
              have h1' : Instr.fill (fun i => some (i * sz, sz)) ((Array.range (len * sz)).map fun x => z.cells[x % z.cells.size]!) (parts.map fun x => (x.1, a.eval x.2)).toList = some new.toArray := by
                rw [Array.toList_map]; exact h1
              by_cases h0 : len * sz = 0
              · have hl0 : len = 0 := by
                  rcases Nat.mul_eq_zero.1 h0 with h | h
                  · exact h
                  · omega
                have hn0 : new = [] := List.eq_nil_of_length_eq_zero (by rw [h2, c3, hl0]; simp)
                subst hn0
                have hp0 : parts.toList = [] := by
                  cases hq : parts.toList with
                  | nil => rfl
                  | cons p r =>
                    obtain ⟨j, x⟩ := p
                    rw [hq] at hxs
                    unfold elemsE at hxs
                    have hx0 : xs' = [] := List.eq_nil_of_length_eq_zero (by rw [c3, hl0])
                    rw [hx0] at hxs
                    split at hxs
                    · split at hxs <;> simp at hxs
                    · simp at hxs
                have he : ∀ f : Nat → Value, (Array.range 0).map f = #[] := fun f => by apply Array.ext'; simp
                simp [h0, hp0, Instr.fill, newRow, he]
              · simp [h0, hz', h1, newRow]
            · refine ⟨w.heap.size, new.toArray, el, len, by rw [c3], by omega, Gh.set_same _ _ _, by simp [h2, c1], by simpa using h4, ?_⟩
              exact rowR_mono (fun x cs hx => Kr_mono (Gh.le_new hH _) hx) h3
          · simp at hb
        · simp at hb
      · simp at hb
    · simp at hb
  · simp at hb

theorem stepBuildS' (K : Kd) (xs : List K.den) {d : Option Nat} {i : Nat} (hE : EnvR G N a E) (hH : Holds w G T Ls) (hb : buildSE P ops E i K = some (xs, d)) (hd : dstOK d N = true)
    (k : ∀ a' w' G', G.le G' → EnvR G' N a' (putE d (.pl K xs) E) → Holds w' G' T Ls → (∀ b, G.role b ≠ .free → w'.heap[b]? = w.heap[b]? ∧ G'.role b = G.role b) → wpFrom P ops Q (i + 1) a' w') : wpFrom P ops Q i a w := by
  obtain ⟨o, v, w', G', h1, h2, h3, h4, h5, h6, h7, h8⟩ := buildSE_run (P := P) K xs hE hH hb
  subst h3
  exact wpFrom_value h1 (goes_ok (CurR_start hE) h2) h4 (k _ _ G' h5 ((hE.mono h5).putO hd h6) h7 h8)

theorem stepBuildS (K : Kd) (xs : List K.den) {d : Option Nat} {i : Nat} (hE : EnvR G N a E) (hH : Holds w G T Ls) (hb : buildSE P ops E i K = some (xs, d)) (hd : dstOK d N = true)
    (k : ∀ a' w' G', G.le G' → EnvR G' N a' (putE d (.pl K xs) E) → Holds w' G' T Ls → wpFrom P ops Q (i + 1) a' w') : wpFrom P ops Q i a w :=
  stepBuildS' (P := P) K xs hE hH hb hd (fun a' w' G' h1 h2 h3 _ => k a' w' G' h1 h2 h3)

end
end Go.Proofs.Ytlfemhkabjafeaa.M
