/- Own library, part 10: new variables; lists that grow; lists that are fields. -/
import Derived.Test.YtlfemhkabjafeaaB9
set_option linter.unusedVariables false
set_option linter.unusedSimpArgs false
namespace Go.Proofs.Ytlfemhkabjafeaa.M

section
variable {P : Program} {w : World} {G : Gh} {T T' : Tabs} {Ls Ls' : List LS} {a : Act} {N : Nat} {E : Env} {ops : Array Oper} {Q : Exit → Act → World → Prop}

theorem holeAt_cons {l : LS} (h : ∀ t i f, holeAt t i f [l] = none) (L : List LS) (t i f : Nat) : holeAt t i f (l :: L) = holeAt t i f L := by
  cases l with
  | hole t' i' f' v =>
    have := h t i f
    simp only [holeAt] at this ⊢
    split at this
    · simp at this
    · rename_i hc; rw [if_neg hc]
  | _ => rfl

theorem NoHole.cons {l : LS} (h : ∀ t i f, holeAt t i f [l] = none) {L : List LS} (hL : NoHole L) : NoHole (l :: L) := fun t i f => by rw [holeAt_cons h]; exact hL t i f

theorem Holds.blk_lt (h : Holds w G T Ls) {l : LS} (hl : l ∈ Ls) {b : Nat} (hb : l.blk = some b) : b < w.heap.size := by
  refine h.lt ?_
  rcases h.loc_role hl hb with h1 | ⟨p, h1⟩ <;> rw [h1] <;> simp

theorem Holds.allocLoc (h : Holds w G T Ls) (o : Obj) (r : Role) (l : LS) (hr : r = .loc ∨ ∃ p, r = .grow .loc p) (hok : BlockOK (w.alloc o) (G.set w.heap.size r) T (l :: Ls) w.heap.size)
    (hl : LSR (w.alloc o) (G.set w.heap.size r) l) (hb : l.blk = some w.heap.size) (hn : ∀ t i f, holeAt t i f [l] = none) : Holds (w.alloc o) (G.set w.heap.size r) T (l :: Ls) := by
  refine h.alloc o r T (l :: Ls) hok (fun b t i _ tab x h1 _ => .inl h1) (fun t i f => holeAt_cons hn Ls t i f) ?_ ?_ ?_ ?_ ?_ (fun t tab h1 => ⟨[], by simpa using h1⟩)
  · intro l' hl'
    rcases List.mem_cons.1 hl' with rfl | h1
    · exact .inr hl
    · exact .inl h1
  · rw [List.filterMap_cons_some hb]
    refine List.nodup_cons.2 ⟨fun hm => ?_, h.nd⟩
    obtain ⟨l', h1, h2⟩ := List.mem_filterMap.1 hm
    exact Nat.lt_irrefl _ (h.blk_lt h1 h2)
  · intro t tab i h1 h2
    obtain ⟨b, hb⟩ := h.ex t tab i h1 h2
    exact ⟨b, by rw [Gh.set_ne _ _ (by have := h.lt (b := b) (by rw [hb]; simp); omega)]; exact hb⟩
  · intro t i h1
    rcases hr with hr | ⟨p, hr⟩ <;> rw [hr] at h1 <;> simp at h1
  · intro t i f h1
    rcases hr with hr | ⟨p, hr⟩ <;> rw [hr] at h1 <;> simp at h1

/-- A variable of the call's own. -/
theorem Holds.box (h : Holds w G T Ls) {K : Kd} {x : K.den} {v : Value} (e : TypeId) (hv : VR G K x v) :
    Holds (w.alloc (.cells v.cells e)) (G.set w.heap.size .loc) T (.box w.heap.size K x :: Ls) :=
  h.allocLoc _ .loc _ (.inl rfl) (by unfold BlockOK; rw [Gh.set_same]; trivial) ⟨Gh.set_same _ _ _, v.cells, e, heap_alloc_new' w _, Kr_mono (Gh.le_new h _) (VR_cells hv)⟩ rfl (fun _ _ _ => rfl)

def boxE (ops : Array Oper) (E : Env) (i : Nat) (K : Kd) : Option (K.den × TypeId × Option Nat) :=
  match ops[i]? with
  | some o => (match goes ops (look E []) o, o.op with
    | true, .box e x => (match opnd (look E []) [] x with
      | some y => (match coeK K y with
        | some z => some (z, e, o.dst)
        | none => none)
      | none => none)
    | _, _ => none)
  | none => none

/-- A new variable of the call's own, with a value. -/
theorem stepBox (K : Kd) (x : K.den) {e : TypeId} {d : Option Nat} {i : Nat} (hE : EnvR G N a E) (hH : Holds w G T Ls) (hb : boxE ops E i K = some (x, e, d)) (hd : dstOK d N = true)
    (k : ∀ b a' w' G', G.le G' → EnvR G' N a' (putE d (.val (.pointer (some ⟨b, 0, none⟩))) E) → Holds w' G' T (.box b K x :: Ls) → wpFrom P ops Q (i + 1) a' w') : wpFrom P ops Q i a w := by
  unfold boxE at hb
  split at hb
  · rename_i o ho
    split at hb
    · rename_i e' x0 hg hop
      split at hb
      · rename_i y hy
        split at hb
        · rename_i z hz
          simp only [Option.some.injEq, Prod.mk.injEq] at hb
          obtain ⟨rfl, rfl, rfl⟩ := hb
          have hv := coeK_ok hz (opnd_ok (CurR_start hE) (by simp) hy)
          refine wpFrom_value ho (goes_ok (CurR_start hE) hg) (v := .pointer (some ⟨w.heap.size, 0, none⟩)) (w' := w.alloc (.cells (a.eval x0).cells e')) ?_
            (k _ _ _ _ (Gh.le_new hH _) ((hE.mono (Gh.le_new hH .loc)).putO hd rfl) (hH.box e' hv))
          simp only [execOp, hop]
          exact run_val (by simp [Instr.box, newVar, newRow])
        · simp at hb
      · simp at hb
    · simp at hb
  · simp at hb

def allocE (P : Program) (ops : Array Oper) (E : Env) (i : Nat) (K : Kd) : Option (TypeId × Option Nat) :=
  match ops[i]? with
  | some o => (match goes ops (look E []) o, o.op with
    | true, .alloc e => (match zeroOf P e with
      | some z => (match isZero K z with
        | true => some (e, o.dst)
        | false => none)
      | none => none)
    | _, _ => none)
  | none => none

/-- A new variable of the call's own, zero. -/
theorem stepAlloc (K : Kd) {e : TypeId} {d : Option Nat} {i : Nat} (hE : EnvR G N a E) (hH : Holds w G T Ls) (hb : allocE P ops E i K = some (e, d)) (hd : dstOK d N = true)
    (k : ∀ b a' w' G', G.le G' → EnvR G' N a' (putE d (.val (.pointer (some ⟨b, 0, none⟩))) E) → Holds w' G' T (.box b K (zeroK K) :: Ls) → wpFrom P ops Q (i + 1) a' w') : wpFrom P ops Q i a w := by
  unfold allocE at hb
  split at hb
  · rename_i o ho
    split at hb
    · rename_i e' hg hop
      split at hb
      · rename_i z hz
        split at hb
        · rename_i hzero
          simp only [Option.some.injEq, Prod.mk.injEq] at hb
          obtain ⟨rfl, rfl⟩ := hb
          have hv := isZero_ok (G := G) hzero
          refine wpFrom_value ho (goes_ok (CurR_start hE) hg) (v := .pointer (some ⟨w.heap.size, 0, none⟩)) (w' := w.alloc (.cells z.cells e')) ?_
            (k _ _ _ _ (Gh.le_new hH _) ((hE.mono (Gh.le_new hH .loc)).putO hd rfl) (hH.box e' hv))
          have hz' : (zeroValue e').run P w = .ok z w := by
            unfold zeroOf at hz
            split at hz
            · rename_i it hit; simp [zeroValue, typeInfo, hit, hz]
            · simp at hz
          simp only [execOp, hop]
          exact run_val (by simp [Instr.alloc, newVar, newRow, hz'])
        · simp at hb
      · simp at hb
    · simp at hb
  · simp at hb

/-! ### Stores -/
def storeE (P : Program) (ops : Array Oper) (E : Env) (i : Nat) (K : Kd) : Option (En × K.den) :=
  match ops[i]? with
  | some o => (match goes ops (look E []) o, o.op, o.dst with
    | true, .store t x y, none => (match opnd (look E []) [] x, opnd (look E []) [] y with
      | some ex, some ey => (match coeK K ey, sizeT P t with
        | some z, some sz => (match Nat.beq sz K.w with
          | true => some (ex, z)
          | false => none)
        | _, _ => none)
      | _, _ => none)
    | _, _, _ => none)
  | none => none

theorem storeE_ok {K : Kd} {ex : En} {z : K.den} {i : Nat} (hE : EnvR G N a E) (hb : storeE P ops E i K = some (ex, z)) :
    ∃ o t x y, ops[i]? = some o ∧ goes ops (look E []) o = true ∧ o.op = .store t x y ∧ o.dst = none ∧ EnR G ex (a.eval x) ∧ EnR G (.kv K z) (a.eval y) ∧ sizeT P t = some K.w := by
  unfold storeE at hb
  split at hb
  · rename_i o ho
    split at hb
    · rename_i t x y hg hop hdst
      split at hb
      · rename_i e1 e2 h1 h2
        split at hb
        · rename_i z' sz hz hs
          split at hb
          · rename_i hsz
            simp only [Option.some.injEq, Prod.mk.injEq] at hb
            obtain ⟨rfl, rfl⟩ := hb
            exact ⟨o, t, x, y, ho, hg, hop, hdst, opnd_ok (CurR_start hE) (by simp) h1, coeK_ok hz (opnd_ok (CurR_start hE) (by simp) h2), by rw [hs, Nat.eq_of_beq_eq_true hsz]⟩
          · simp at hb
        · simp at hb
      · simp at hb
    · simp at hb
  · simp at hb

theorem run_unit {m : Sem Unit} {w' : World} (h : m.run P w = .ok () w') : (do m; pure Next.skip : Sem Next).run P w = .ok .skip w' := by simp [h]

/-- A store into an object's field. -/
theorem stepStO (K : Kd) (z : K.den) {t j off : Nat} {fs : List Fk} {x x' : denFs fs} {i : Nat} (hE : EnvR G N a E) (hH : Holds w G T Ls) (hb : storeE P ops E i K = some (.fldA t j off, z))
    (ho : ObAt T t j fs x) (hset : setF fs x off K z = some x') (hT : UpdT T T' t j fs x')
    (k : ∀ w' G', G.le G' → EnvR G' N a E → Holds w' G' T' Ls → wpFrom P ops Q (i + 1) a w') : wpFrom P ops Q i a w := by
  obtain ⟨o, t', x0, y0, ho', hg, hop, hdst, h1, h2, h3⟩ := storeE_ok hE hb
  obtain ⟨w', hr, hH'⟩ := store_obj (P := P) hH h1 h2 h3 ho hset hT
  refine stepS (G := G) ho' hg hdst hE ⟨w', G, ?_, Gh.le_refl G, hH'⟩ k
  simp only [execOp, hop]; exact run_unit hr

/-- A store into a variable of the call's own. -/
theorem stepStB (j : Nat) (K : Kd) (z : K.den) {b off : Nat} {k0 : Kd} {x x' : k0.den} {i : Nat} (hE : EnvR G N a E) (hH : Holds w G T Ls) (hb : storeE P ops E i K = some (.val (.pointer (some ⟨b, off, none⟩)), z))
    (hj : Ls[j]? = some (.box b k0 x)) (hset : setK k0 x off K z = some x')
    (k : ∀ w' G', G.le G' → EnvR G' N a E → Holds w' G' T (Ls.set j (.box b k0 x')) → wpFrom P ops Q (i + 1) a w') : wpFrom P ops Q i a w := by
  obtain ⟨o, t', x0, y0, ho', hg, hop, hdst, h1, h2, h3⟩ := storeE_ok hE hb
  obtain ⟨w', hr, hH'⟩ := store_box (P := P) (off := off) hH h2 h3 hj hset
  refine stepS (G := G) ho' hg hdst hE ⟨w', G, ?_, Gh.le_refl G, hH'⟩ k
  simp only [EnR] at h1
  simp only [execOp, hop, h1]; exact run_unit hr

/-! ### Lists that grow -/
theorem Holds.nilTk (h : Holds w G T Ls) (e bt : Nat) (K : Kd) : Holds w G T (.tk (.slice none 0 0) e bt K [] :: Ls) := by
  refine h.change (fun _ => False) (Gh.le_refl G) ⟨rfl, rfl, rfl⟩ h.free (fun b _ => ⟨rfl, rfl⟩) (fun _ hb => hb.elim) ?_ ?_ h.nd h.ex h.inj h.finj h.fex
  · intro b t i _ _ tab x cs h1 h2 h3
    exact ⟨tab, x, h1, h2, ObjR_keep (w := w) (L := Ls) (Gh.le_refl G) (fun f => holeAt_cons (fun _ _ _ => rfl) _ _ _ _) (fun _ _ _ => ⟨rfl, rfl⟩) h3⟩
  · intro l hl
    rcases List.mem_cons.1 hl with rfl | h1
    · exact ⟨[], World.ownsRow_nil w 0 e K.w, trivial, trivial, fun b hb => by simp [Value.ownBlock] at hb⟩
    · exact h.loc l h1

/-- The token of a place is let go. -/
theorem Holds.drop {l : LS} (h : Holds w G T (l :: Ls)) (hn : ∀ t i f, holeAt t i f [l] = none) : Holds w G T Ls := by
  refine h.change (fun _ => False) (Gh.le_refl G) ⟨rfl, rfl, rfl⟩ h.free (fun b _ => ⟨rfl, rfl⟩) (fun _ hb => hb.elim) ?_ (fun l' hl => h.loc l' (List.mem_cons_of_mem _ hl)) ?_ h.ex h.inj h.finj h.fex
  · intro b t i _ _ tab x cs h1 h2 h3
    exact ⟨tab, x, h1, h2, ObjR_keep (w := w) (L := l :: Ls) (Gh.le_refl G) (fun f => (holeAt_cons hn _ _ _ _).symm) (fun _ _ _ => ⟨rfl, rfl⟩) h3⟩
  · have := h.nd
    cases hb : l.blk with
    | none => rwa [List.filterMap_cons_none hb] at this
    | some b => rw [List.filterMap_cons_some hb] at this; exact (List.nodup_cons.1 this).2

/-- A slot that holds nil: an empty list that may grow. -/
theorem EnvR.nilTl (hE : EnvR G N a E) (s : Nat) (K : Kd) (h : lk E s = some (.val (.slice none 0 0))) : EnvR G N a ((s, .tl (.slice none 0 0) K []) :: E) := by
  refine ⟨hE.1, hE.2.1, fun u e2 ht => ?_⟩
  rw [lk_cons] at ht
  by_cases hst : s = u
  · subst hst
    simp at ht; subst ht
    have := hE.2.2 s _ h
    simp only [EnR] at this
    refine ⟨this, ?_⟩
    rw [this]
    exact VR_list.2 ⟨none, 0, rfl, Nat.zero_le _, .inl rfl⟩
  · rw [if_neg hst] at ht; exact hE.2.2 u _ ht

def infOK (inf : TypeInfo) (K : Kd) (bt : Nat) : Bool :=
  Nat.beq inf.size K.w && (Nat.beq inf.bytes bt && (Nat.blt 0 K.w && (Nat.blt 0 bt && (match inf.zero with
    | some z => Nat.beq z.cells.size K.w
    | none => false))))

def appE (P : Program) (ops : Array Oper) (E : Env) (i : Nat) (K : Kd) (bt : Nat) : Option (En × En × TypeId × Option Nat) :=
  match ops[i]? with
  | some o => (match goes ops (look E []) o, o.op with
    | true, .call c => (match c.callee, c.args.toList, c.argTypes.toList with
      | .builtin .append, [s, x], [t, u] => (match Nat.beq t u, P.underlying t, opnd (look E []) [] s, opnd (look E []) [] x with
        | true, some (.slice e), some es, some ex => (match P.info? e with
          | some inf => (match infOK inf K bt with
            | true => some (es, ex, e, o.dst)
            | false => none)
          | none => none)
        | _, _, _, _ => none)
      | _, _, _ => none)
    | _, _ => none)
  | none => none

theorem ownsRow_prefix {base e size n : Nat} {v : Value} {xs : List Value} (h : w.ownsRow base e size v n xs) {g : Nat} (hg : v.ownBlock = some g) :
    ∃ cur, w.heap[g]? = some (.cells cur e (0, 0)) ∧ ∃ rest, cur.toList = xs ++ rest := by
  rcases h.2 with ⟨rfl, _⟩ | ⟨g', cap, cur, rfl, _, hh, _, _, _, ht⟩
  · simp [Value.ownBlock] at hg
  · simp [Value.ownBlock] at hg
    subst hg
    exact ⟨cur, hh, cur.toList.drop (n * size), by rw [← ht, List.take_append_drop]⟩

/-- What an append onto a list of the call's own leaves. -/
theorem nodup_set_new {n : Nat} : ∀ (M : List LS) (j : Nat) (l l' : LS), (∀ m ∈ M, ∀ b, m.blk = some b → b < n) → l'.blk = some n → M[j]? = some l → (M.filterMap LS.blk).Nodup → ((M.set j l').filterMap LS.blk).Nodup := by
  intro M
  induction M with
  | nil => intro j l l' _ _ hq; simp at hq
  | cons z M ih =>
    intro j l l' hlt hbl hq hnd
    have hnd' : (M.filterMap LS.blk).Nodup := by
      cases hz : z.blk with
      | none => rwa [List.filterMap_cons_none hz] at hnd
      | some c => rw [List.filterMap_cons_some hz] at hnd; exact (List.nodup_cons.1 hnd).2
    cases j with
    | zero =>
      simp only [List.set_cons_zero]
      rw [List.filterMap_cons_some hbl]
      refine List.nodup_cons.2 ⟨fun hm => ?_, hnd'⟩
      obtain ⟨m, hm1, hm2⟩ := List.mem_filterMap.1 hm
      exact Nat.lt_irrefl _ (hlt m (List.mem_cons_of_mem _ hm1) _ hm2)
    | succ j =>
      simp only [List.set_cons_succ]
      have ih' := ih j l l' (fun m hm => hlt m (List.mem_cons_of_mem _ hm)) hbl (by simpa using hq) hnd'
      cases hz : z.blk with
      | none => rw [List.filterMap_cons_none hz]; exact ih'
      | some c =>
        rw [List.filterMap_cons_some hz] at hnd ⊢
        refine List.nodup_cons.2 ⟨fun hm => ?_, ih'⟩
        obtain ⟨m, hm1, hm2⟩ := List.mem_filterMap.1 hm
        rcases List.mem_or_eq_of_mem_set hm1 with hm1 | rfl
        · exact (List.nodup_cons.1 hnd).1 (List.mem_filterMap.2 ⟨m, hm1, hm2⟩)
        · rw [hbl] at hm2; simp at hm2
          have := hlt z List.mem_cons_self c hz
          omega

theorem Holds.appended (h : Holds w G T Ls) {w' : World} {j : Nat} {v v' : Value} {e bt : Nat} {K : Kd} {xs ys : List K.den} {cs news : List Value} (hj : Ls[j]? = some (.tk v e bt K xs))
    (hcs : w.ownsRow 0 e K.w v xs.length cs) (hr : rowR (Kr G K) K.w xs cs) (hrole : ∀ b, v.ownBlock = some b → G.role b = .grow .loc cs) (hys : rowR (Kr G K) K.w ys news)
    (hown : w'.ownsRow 0 e K.w v' (xs.length + ys.length) (cs ++ news)) (hcap : capOK v' bt)
    (henv : w'.os = w.os ∧ w'.tape = w.tape ∧ w'.output = w.output)
    (hv' : (v'.ownBlock = v.ownBlock ∧ w'.heap.size = w.heap.size ∧ ∀ b, v.ownBlock ≠ some b → w'.heap[b]? = w.heap[b]?) ∨
      (v'.ownBlock = some w.heap.size ∧ w'.heap.size = w.heap.size + 1 ∧ ∀ b, b ≠ w.heap.size → w'.heap[b]? = w.heap[b]?)) :
    ∃ G', G.le G' ∧ VR G' (.list K) (xs ++ ys) v' ∧ Holds w' G' T (Ls.set j (.tk v' e bt K (xs ++ ys))) := by
  have hrr : rowR (Kr G K) K.w (xs ++ ys) (cs ++ news) := rowR_app hr hcs.1 hys
  have hlen : (xs ++ ys).length = xs.length + ys.length := by simp
  rw [← hlen] at hown
  have hmem := List.mem_of_getElem? hj
  have fin : ∀ G', G.le G' → (∀ b, v'.ownBlock = some b → G'.role b = .grow .loc (cs ++ news)) → ownV G' w' .loc e bt K (xs ++ ys) v' :=
    fun G' hle hb => ⟨cs ++ news, hown, rowR_mono (fun x cs hx => Kr_mono hle hx) hrr, hcap, hb⟩
  rcases hv' with ⟨h1, h2, h3⟩ | ⟨h1, h2, h3⟩
  · cases hb : v.ownBlock with
    | none =>
      rw [hb] at h1 h3
      have hs : ∀ b, w'.heap[b]? = w.heap[b]? := fun b => h3 b (by simp)
      have ho := fin G (Gh.le_refl G) (fun b hb => by rw [h1] at hb; simp at hb)
      refine ⟨G, Gh.le_refl G, ownV_list ho, ?_⟩
      refine h.change (fun _ => False) (Gh.le_refl G) henv (fun b hb => h.free b (by omega)) (fun b _ => ⟨hs b, rfl⟩) (fun _ hb => hb.elim) ?_ ?_ ?_ h.ex h.inj h.finj h.fex
      · intro b t i _ _ tab x cs' k1 k2 k3
        exact ⟨tab, x, k1, k2, ObjR_keep (w := w) (L := Ls) (Gh.le_refl G) (holeAt_set hj (fun _ _ _ => rfl) (fun _ _ _ => rfl) t i) (fun b _ _ => ⟨hs b, rfl⟩) k3⟩
      · intro l hl
        rcases List.mem_or_eq_of_mem_set hl with hl | rfl
        · exact LSR_keep (Gh.le_refl G) (fun b _ => ⟨hs b, rfl⟩) (h.loc l hl)
        · exact ho
      · refine nodup_set hj ?_ h.nd
        simp only [LS.blk, h1, hb]
    | some g =>
      rw [hb] at h1 h3
      have hg := hrole g hb
      have hle : G.le (G.set g (.grow .loc (cs ++ news))) := Gh.le_set (by rw [hg]; exact ⟨_, _, rfl⟩)
      have ho := fin _ hle (fun b hb' => by rw [h1] at hb'; simp at hb'; subst hb'; exact Gh.set_same _ _ _)
      have hs : ∀ b, b ≠ g → w'.heap[b]? = w.heap[b]? ∧ (G.set g (.grow .loc (cs ++ news))).role b = G.role b := fun b hb => ⟨h3 b (by simpa using Ne.symm hb), Gh.set_ne _ _ hb⟩
      refine ⟨_, hle, ownV_list ho, ?_⟩
      have hrf : ∀ (r : Role) b, G.role b = r → r ≠ .grow .loc cs → b ≠ g := fun r b hq hq2 he => by rw [he, hg] at hq; exact hq2 hq.symm
      refine h.change (fun b => b = g) hle henv (fun b hb => ?_) (fun b hb => hs b hb) (fun b hb => ?_) ?_ ?_ ?_ ?_ ?_ ?_ ?_
      · have := h.free b (by omega)
        rw [Gh.set_ne _ _ (hrf _ b this (by simp))]; exact this
      · subst hb
        obtain ⟨cur, k1, k2⟩ := ownsRow_prefix hown h1
        unfold BlockOK; rw [Gh.set_same]
        exact ⟨cur, e, k1, k2⟩
      · intro b t i hb1 hb2 tab x cs' k1 k2 k3
        refine ⟨tab, x, k1, k2, ObjR_keep (w := w) (L := Ls) hle (holeAt_set hj (fun _ _ _ => rfl) (fun _ _ _ => rfl) t i) (fun b f hb => hs b ?_) k3⟩
        rcases hb with hb | ⟨p, hb⟩
        · exact hrf _ b hb (by simp)
        · exact hrf _ b hb (by simp)
      · intro l hl
        rcases mem_set_other hj hb h.nd hl with rfl | ⟨hl, hne⟩
        · exact ho
        · exact LSR_keep hle (fun b hb' => hs b (fun he => by subst he; exact hne hb')) (h.loc l hl)
      · refine nodup_set hj ?_ h.nd
        simp only [LS.blk, h1, hb]
      · intro t tab i k1 k2
        obtain ⟨b, hb⟩ := h.ex t tab i k1 k2
        exact ⟨b, by rw [Gh.set_ne _ _ (hrf _ b hb (by simp))]; exact hb⟩
      · intro b b' t i k1 k2
        have n1 : b ≠ g := fun he => by subst he; rw [Gh.set_same] at k1; simp at k1
        have n2 : b' ≠ g := fun he => by subst he; rw [Gh.set_same] at k2; simp at k2
        rw [Gh.set_ne _ _ n1] at k1; rw [Gh.set_ne _ _ n2] at k2
        exact h.inj b b' t i k1 k2
      · intro b b' t i f k1 k2
        have n1 : b ≠ g := fun he => by subst he; rw [Gh.set_same] at k1; simp at k1
        have n2 : b' ≠ g := fun he => by subst he; rw [Gh.set_same] at k2; simp at k2
        rw [Gh.set_ne _ _ n1] at k1; rw [Gh.set_ne _ _ n2] at k2
        exact h.finj b b' t i f k1 k2
      · intro b t i f k1
        have n1 : b ≠ g := fun he => by subst he; rw [Gh.set_same] at k1; simp at k1
        rw [Gh.set_ne _ _ n1] at k1
        exact h.fex b t i f k1
  · have hle : G.le (G.set w.heap.size (.grow .loc (cs ++ news))) := Gh.le_new h _
    have ho := fin _ hle (fun b hb' => by rw [h1] at hb'; simp at hb'; subst hb'; exact Gh.set_same _ _ _)
    have hs : ∀ b, b ≠ w.heap.size → w'.heap[b]? = w.heap[b]? ∧ (G.set w.heap.size (.grow .loc (cs ++ news))).role b = G.role b := fun b hb => ⟨h3 b hb, Gh.set_ne _ _ hb⟩
    have hrf : ∀ b, G.role b ≠ .free → b ≠ w.heap.size := fun b hb he => hb (h.free b (by omega))
    refine ⟨_, hle, ownV_list ho, ?_⟩
    refine h.change (fun b => b = w.heap.size) hle henv (fun b hb => ?_) (fun b hb => hs b hb) (fun b hb => ?_) ?_ ?_ ?_ ?_ ?_ ?_ ?_
    · rw [Gh.set_ne _ _ (by omega)]; exact h.free b (by omega)
    · subst hb
      obtain ⟨cur, k1, k2⟩ := ownsRow_prefix hown h1
      unfold BlockOK; rw [Gh.set_same]
      exact ⟨cur, e, k1, k2⟩
    · intro b t i hb1 hb2 tab x cs' k1 k2 k3
      refine ⟨tab, x, k1, k2, ObjR_keep (w := w) (L := Ls) hle (holeAt_set hj (fun _ _ _ => rfl) (fun _ _ _ => rfl) t i) (fun b f hb => hs b (hrf b ?_)) k3⟩
      rcases hb with hb | ⟨p, hb⟩ <;> rw [hb] <;> simp
    · intro l hl
      rcases List.mem_or_eq_of_mem_set hl with hl | rfl
      · exact LSR_keep hle (fun b hb' => hs b (by have := h.blk_lt hl hb'; omega)) (h.loc l hl)
      · exact ho
    · -- the new block is no other's
      exact nodup_set_new Ls j _ _ (fun m hm b hb => h.blk_lt hm hb) (by simpa [LS.blk] using h1) hj h.nd
    · intro t tab i k1 k2
      obtain ⟨b, hb⟩ := h.ex t tab i k1 k2
      exact ⟨b, by rw [Gh.set_ne _ _ (hrf b (by rw [hb]; simp))]; exact hb⟩
    · intro b b' t i k1 k2
      have n1 : b ≠ w.heap.size := fun he => by subst he; rw [Gh.set_same] at k1; simp at k1
      have n2 : b' ≠ w.heap.size := fun he => by subst he; rw [Gh.set_same] at k2; simp at k2
      rw [Gh.set_ne _ _ n1] at k1; rw [Gh.set_ne _ _ n2] at k2
      exact h.inj b b' t i k1 k2
    · intro b b' t i f k1 k2
      have n1 : b ≠ w.heap.size := fun he => by subst he; rw [Gh.set_same] at k1; simp at k1
      have n2 : b' ≠ w.heap.size := fun he => by subst he; rw [Gh.set_same] at k2; simp at k2
      rw [Gh.set_ne _ _ n1] at k1; rw [Gh.set_ne _ _ n2] at k2
      exact h.finj b b' t i f k1 k2
    · intro b t i f k1
      have n1 : b ≠ w.heap.size := fun he => by subst he; rw [Gh.set_same] at k1; simp at k1
      rw [Gh.set_ne _ _ n1] at k1
      exact h.fex b t i f k1

/-- An append onto an owned row: where the new row lies. -/
theorem append_core {t ty e : TypeId} {inf : TypeInfo} {K : Kd} {bt n : Nat} {v : Value} {cs news : List Value} (ht : P.underlying t = some (.slice e)) (hi : P.info? e = some inf) (hok : infOK inf K bt = true)
    (hown : w.ownsRow 0 e K.w v n cs) (hcap : capOK v bt) (ad : Addr) (m c : Nat) (hl : news.length = m * K.w) (hnews : ∀ j u, news[j]? = some u → w.cell? (ad.add j) = some u) (h1 : ∀ u ∈ news, u.oneCell' = true)
    (hB : (n + m) * bt ≤ 140737488355328) :
    (∃ v' w', (Builtin.append_ #[t, t] ty #[v, .slice (some ad) m c]).run P w = .ok v' w' ∧ w'.ownsRow 0 e K.w v' (n + m) (cs ++ news) ∧ capOK v' bt ∧ (w'.os = w.os ∧ w'.tape = w.tape ∧ w'.output = w.output) ∧
      ((v'.ownBlock = v.ownBlock ∧ w'.heap.size = w.heap.size ∧ ∀ b, v.ownBlock ≠ some b → w'.heap[b]? = w.heap[b]?) ∨
       (v'.ownBlock = some w.heap.size ∧ w'.heap.size = w.heap.size + 1 ∧ ∀ b, b ≠ w.heap.size → w'.heap[b]? = w.heap[b]?))) := by
  unfold infOK at hok
  simp only [Bool.and_eq_true] at hok
  obtain ⟨k1, k2, k3, k4, k5⟩ := hok
  have hsize := Nat.eq_of_beq_eq_true k1
  have hby := Nat.eq_of_beq_eq_true k2
  have hsz : 0 < K.w := Nat.le_of_ble_eq_true k3
  have hb0 : 0 < bt := Nat.le_of_ble_eq_true k4
  cases hz : inf.zero with
  | none => rw [hz] at k5; simp at k5
  | some z =>
    rw [hz] at k5
    have hzs := Nat.eq_of_beq_eq_true k5
    have h63 : n + m ≤ maxLen := by
      have : n + m ≤ (n + m) * bt := Nat.le_mul_of_pos_right _ hb0
      simp only [maxLen]; omega
    obtain ⟨v', w', hr, h2, h3, h4⟩ := run_append_own (P := P) w 0 t ty e inf z K.w bt ht hi hz hsize hby hzs hsz v n cs hown ad m c news hl hnews h1 h63 hB (Nat.zero_le _)
    · refine ⟨v', w', hr, h2, trivial, ⟨h3.os, h3.tape, h3.output⟩, ?_⟩
      have hm63 : n + m ≤ 9223372036854775807 := by
        have : n + m ≤ (n + m) * bt := Nat.le_mul_of_pos_right _ hb0
        omega
      have fresh : ∀ (x : Array Value), w' = w.drew.alloc (.cells x e) → (∀ q, v' = .slice (some ⟨w.heap.size, 0, none⟩) (n + m) q → v'.ownBlock = some w.heap.size) → w'.heap.size = w.heap.size + 1 ∧ ∀ b, b ≠ w.heap.size → w'.heap[b]? = w.heap[b]? := by
        intro x hw _
        subst hw
        refine ⟨by simp, fun b hb => ?_⟩
        have := heap_alloc_ne w.drew (.cells x e) (b := b) (by simpa using hb)
        rw [this]; rfl
      rcases hown.2 with ⟨rfl, rfl⟩ | ⟨g, cap, cur, rfl, _, hg, hnc, hcm, hcs, htake⟩
      · by_cases hm : m = 0
        · have hv : v' = .slice none 0 0 := h4.2 ⟨rfl, hm⟩
          have hw : w' = w := by
            have hn0 : news = [] := List.eq_nil_of_length_eq_zero (by rw [hl, hm]; simp)
            have : (Builtin.append_ #[t, t] ty #[.slice none 0 0, .slice (some ad) m c]).run P w = .ok (.slice none 0 0) w := by
              subst hm
              simp [Builtin.append_, run_underlying ht, sizeOf, typeInfo, hi, Builtin.lenOf, Builtin.firstCells, loadCells, loadCellsFrom]
            rw [this] at hr
            simp only [Result.ok.injEq] at hr
            exact hr.2.symm
          subst hv; subst hw
          exact .inl ⟨rfl, rfl, fun _ _ => rfl⟩
        · have hrn := run_append_nil (P := P) w t ty e inf z ht hi hz ad m c news (by rw [hl, hsize]) hnews (by omega) (by omega) (by
            rw [hby]; simp only [Nat.zero_add] at hB; omega)
          rw [hrn] at hr
          simp only [Result.ok.injEq] at hr
          obtain ⟨hv, hw⟩ := hr
          obtain ⟨f1, f2⟩ := fresh _ hw.symm (fun q hq => by rw [hq]; rfl)
          exact .inr ⟨by rw [← hv]; rfl, f1, f2⟩
      · by_cases hroom : n + m ≤ cap
        · have hfit : n * inf.size + news.length ≤ cur.size := by rw [hl, hcs, hsize, ← Nat.add_mul]; exact Nat.mul_le_mul_right _ hroom
          have hrr := run_append_room (P := P) w t ty e inf ht hi g n cap cur hg ad m c news (by rw [hl, hsize]) hnews h1 hroom hfit
          rw [hrr] at hr
          simp only [Result.ok.injEq] at hr
          obtain ⟨hv, hw⟩ := hr
          refine .inl ⟨by rw [← hv]; rfl, by rw [← hw]; simp, fun b hb => ?_⟩
          rw [← hw]
          exact setRow_other w g b _ (fun he => hb (by rw [he]; rfl))
        · have holds : ∀ j u, cs[j]? = some u → w.cell? ((⟨g, 0, none⟩ : Addr).add j) = some u := hown.cells (g := g) rfl
          have hrg := run_append_grow (P := P) w t ty e inf z ht hi hz ⟨g, 0, none⟩ n cap cs (by rw [hown.1, hsize]) holds ad m c news (by rw [hl, hsize]) hnews (by omega) (by omega) (growslice_fits (by omega) (by rw [hby]; exact hB))
          rw [hrg] at hr
          simp only [Result.ok.injEq] at hr
          obtain ⟨hv, hw⟩ := hr
          obtain ⟨f1, f2⟩ := fresh _ hw.symm (fun q hq => by rw [hq]; rfl)
          exact .inr ⟨by rw [← hv]; rfl, f1, f2⟩

/-- An append of given elements onto a list of the call's own. -/
theorem stepApp' (j : Nat) {v : Value} {e bt : Nat} {K : Kd} {xs ys : List K.den} {e' : TypeId} {d : Option Nat} {i : Nat} (hE : EnvR G N a E) (hH : Holds w G T Ls)
    (hb : appE P ops E i K bt = some (.tl v K xs, .pl K ys, e', d)) (hj : Ls[j]? = some (.tk v e' bt K xs)) (hd : dstOK d N = true) (hq : (xs.length + ys.length) * bt ≤ 140737488355328)
    (k : ∀ v' a' w' G', G.le G' → EnvR G' N a' (putE d (.tl v' K (xs ++ ys)) E) → Holds w' G' T (Ls.set j (.tk v' e' bt K (xs ++ ys))) → (∀ b t' i' f', G.role b = .fld t' i' f' → w'.heap[b]? = w.heap[b]?) → wpFrom P ops Q (i + 1) a' w') : wpFrom P ops Q i a w := by
  unfold appE at hb
  split at hb
  · rename_i o ho
    split at hb
    · rename_i c hg hop
      split at hb
      · rename_i s x t u hcal hargs hts
        split at hb
        · rename_i el es ex htu hu hs hx
          split at hb
          · rename_i inf hinf
            have hok : infOK inf K bt = true := by
              cases hq : infOK inf K bt with
              | true => rfl
              | false => rw [hq] at hb; simp at hb
            rw [hok] at hb
            simp only [Option.some.injEq, Prod.mk.injEq] at hb
            obtain ⟨rfl, rfl, rfl, rfl⟩ := hb
            have htu' := Nat.eq_of_beq_eq_true htu
            subst htu'
            have hv1 := opnd_ok (CurR_start hE) (by simp) hs
            have hv2 := opnd_ok (CurR_start hE) (by simp) hx
            obtain ⟨hsv, _⟩ := hv1
            obtain ⟨b, cc, ty, nn, hxv, hnn, hbr, hcs, hone, hrow⟩ := hv2
            obtain ⟨cs, o1, o2, o3, o4⟩ := hH.loc _ (List.mem_of_getElem? hj)
            have hblk : w.heap[b]? = some (.cells cc ty (0, 0)) := by
              have := hH.block b; unfold BlockOK at this; rw [hbr] at this; exact this
            have hop' : o.op = .call { callee := .builtin .append, args := #[s, x], argTypes := #[t, t] } := by
              rw [hop]
              congr 1
              cases c with
              | mk ca ar at_ =>
                simp only at hcal hargs hts
                subst hcal
                congr 1
                · rw [← hargs]
                · rw [← hts]
            have hcell : ∀ jj uu, cc.toList[jj]? = some uu → w.cell? ((⟨b, 0, none⟩ : Addr).add jj) = some uu := fun jj uu hq => by
              rw [addr_add, cell_at hblk, Nat.zero_add]; simpa using hq
            rcases append_core (P := P) (w := w) (ty := o.type) (bt := bt) hu hinf hok o1 o3 ⟨b, 0, none⟩ ys.length nn (by simpa using hcs) hcell hone hq with ⟨v', w', hr, h2, h3, h4, h5⟩
            · obtain ⟨G', hle, hvr, hH'⟩ := hH.appended hj o1 o2 o4 hrow h2 h3 h4 h5
              refine wpFrom_value ho (goes_ok (CurR_start hE) hg) (v := v') (w' := w') ?_ (k v' _ _ G' hle ((hE.mono hle).putO hd ⟨rfl, hvr⟩) hH' ?_)
              simp only [execOp, hop', resolve, invoke, builtin, Sem.run_bind, Sem.run_pure, Result.andThen_ok, List.map_toArray, List.map_cons, List.map_nil, hsv, hxv, hr]
              intro b1 t1 i1 f1 hb1
              rcases h5 with ⟨_, _, h5⟩ | ⟨_, _, h5⟩
              · exact h5 b1 (fun hq => by rw [o4 _ hq] at hb1; simp at hb1)
              · exact h5 b1 (fun hq => by rw [hH.free b1 (by omega)] at hb1; simp at hb1)
          · simp at hb
        · simp at hb
      · simp at hb
    · simp at hb
  · simp at hb


theorem stepApp (j : Nat) {v : Value} {e bt : Nat} {K : Kd} {xs ys : List K.den} {e' : TypeId} {d : Option Nat} {i : Nat} (hE : EnvR G N a E) (hH : Holds w G T Ls)
    (hb : appE P ops E i K bt = some (.tl v K xs, .pl K ys, e', d)) (hj : Ls[j]? = some (.tk v e' bt K xs)) (hd : dstOK d N = true) (hq : (xs.length + ys.length) * bt ≤ 140737488355328)
    (k : ∀ v' a' w' G', G.le G' → EnvR G' N a' (putE d (.tl v' K (xs ++ ys)) E) → Holds w' G' T (Ls.set j (.tk v' e' bt K (xs ++ ys))) → wpFrom P ops Q (i + 1) a' w') : wpFrom P ops Q i a w :=
  stepApp' (P := P) (e := e) j hE hH hb hj hd hq (fun v' a' w' G' h1 h2 h3 _ => k v' a' w' G' h1 h2 h3)

end
end Go.Proofs.Ytlfemhkabjafeaa.M
