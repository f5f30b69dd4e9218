/- Own library, part 2: stretches of operations that look at no memory, run by the evaluator; one operation at a time. -/
import Derived.Test.YtlfemhkabjafeaaB1
set_option linter.unusedVariables false
set_option linter.unusedSimpArgs false
namespace Go.Proofs.Ytlfemhkabjafeaa.M

def look (E cur : Env) (s : Nat) : Option En :=
  match lk cur s with
  | some e => some e
  | none => lk E s

def chain (L : Nat → Option En) : Nat → Nat → Bool → List (Nat × Bool)
  | 0, s, w => [(s, w)]
  | n + 1, s, w => (s, w) :: (match L s with
    | some (.cnd s' w' _) => chain L n s' w'
    | _ => [])

def extC (L : Nat → Option En) (ctx : List (Nat × Bool)) (c : Operand) (w : Bool) : List (Nat × Bool) :=
  match c with
  | .tmp s => chain L 6 s w ++ ctx
  | _ => ctx

def pevP (P : Program) (L : Nat → Option En) (ctx : List (Nat × Bool)) (op : Op) : Option En :=
  match op with
  | .pick c x y => (match opnd L ctx c with
    | some (.kv .bool b) => (match opnd L (extC L ctx c true) x, opnd L (extC L ctx c false) y with
      | some (.kv .bool u), some (.kv .bool v) => some (.kv .bool (cond b u v))
      | some (.kv .bool u), _ => (match b with
        | true => some (.kv .bool u)
        | false => none)
      | _, some (.kv .bool v) => (match b with
        | false => some (.kv .bool v)
        | true => none)
      | _, _ => none)
    | _ => none)
  | op => pev P (opnd L ctx) op

def segOp (P : Program) (ops : Array Oper) (L : Nat → Option En) (o : Oper) : Option En :=
  match o.guard with
  | none => pevP P L [] o.op
  | some (j, want) => (match (ops[j]?).bind (·.dst) with
    | some sj => (match pevP P L (chain L 6 sj want) o.op with
      | some e => some (.cnd sj want e)
      | none => none)
    | none => none)

def noCnd (d : Nat) : Env → Bool
  | [] => true
  | (_, .cnd s _ e) :: r => (match Nat.beq s d with
    | true => false
    | false => noCndE d e && noCnd d r)
  | _ :: r => noCnd d r
  where
  noCndE (d : Nat) : En → Bool
  | .cnd s _ e => (match Nat.beq s d with
    | true => false
    | false => noCndE d e)
  | _ => true

def segs (P : Program) (ops : Array Oper) (N : Nat) (E : Env) : Nat → Nat → Env → Option Env
  | 0, _, cur => some cur
  | n + 1, i, cur => (match ops[i]? with
    | some o => (match segOp P ops (look E cur) o with
      | some e => (match o.dst with
        | some d => (match Nat.blt d N && (noCnd d cur && noCnd.noCndE d e) with
          | true => segs P ops N E n (i + 1) ((d, e) :: cur)
          | false => none)
        | none => segs P ops N E n (i + 1) cur)
      | none => none)
    | none => none)

def rsv (L : Nat → Option En) : En → Option En
  | .cnd s w e => (match L s with
    | some (.kv .bool b) => (match b, w with
      | true, true => rsv L e
      | false, false => rsv L e
      | _, _ => some .undef)
    | some .undef => some .undef
    | _ => none)
  | e => some e

def hasS : List Nat → Nat → Bool
  | [], _ => false
  | s :: r, t => (match Nat.beq s t with
    | true => true
    | false => hasS r t)

def stale (E : Env) (sl : List Nat) : Env → Bool
  | [] => true
  | (s, _) :: r => (match hasS sl s with
    | true => stale E sl r
    | false => (match lk E s with
      | none => stale E sl r
      | some _ => false))

def pickS (L : Nat → Option En) : List Nat → Option Env
  | [] => some []
  | s :: r => (match L s with
    | some e => (match rsv L e with
      | some e' => (match pickS L r with
        | some D => some ((s, e') :: D)
        | none => none)
      | none => none)
    | none => none)

def segD (P : Program) (ops : Array Oper) (N : Nat) (E : Env) (n i : Nat) (sl : List Nat) : Option Env :=
  match segs P ops N E n i [] with
  | some cur => (match stale E sl cur with
    | true => pickS (look E cur) sl
    | false => none)
  | none => none

def fsts : Env → List Nat
  | [] => []
  | (s, _) :: r => s :: fsts r

/-! ### Soundness -/
section
variable {P : Program} {G : Gh} {a : Act} {N : Nat} {E cur : Env} {ops : Array Oper} {Q : Exit → Act → World → Prop} {w : World}

def CurR (G : Gh) (a : Act) (L : Nat → Option En) : Prop := ∀ s e, L s = some e → EnA G a e (a.tmps.getD s Go.undef)

theorem chain_ok {L : Nat → Option En} (hL : CurR G a L) : ∀ {n s : Nat} {w : Bool}, a.tmps.getD s Go.undef = .bool w → ∀ t u, (t, u) ∈ chain L n s w → a.tmps.getD t Go.undef = .bool u
  | 0, s, w, h, t, u, hm => by simp [chain] at hm; obtain ⟨rfl, rfl⟩ := hm; exact h
  | n + 1, s, w, h, t, u, hm => by
    simp only [chain, List.mem_cons, Prod.mk.injEq] at hm
    rcases hm with ⟨rfl, rfl⟩ | hm
    · exact h
    · split at hm
      · rename_i s' w' e hs
        have he := hL _ _ hs
        have h' : a.tmps.getD s' Go.undef = .bool w' := by
          by_cases hc : a.tmps.getD s' Go.undef = .bool w'
          · exact hc
          · have := he.2 hc
            rw [h] at this
            simp [Go.undef] at this
        exact chain_ok hL h' t u hm
      · simp at hm

theorem extC_ok {L : Nat → Option En} (hL : CurR G a L) {ctx : List (Nat × Bool)} (hc : ∀ s w, (s, w) ∈ ctx → a.tmps.getD s Go.undef = .bool w) {c : Operand} {w : Bool}
    (h : a.eval c = .bool w) : ∀ s u, (s, u) ∈ extC L ctx c w → a.tmps.getD s Go.undef = .bool u := by
  intro s u hm
  unfold extC at hm
  split at hm
  · rename_i t
    rcases List.mem_append.1 hm with hm | hm
    · exact chain_ok hL h s u hm
    · exact hc s u hm
  · exact hc s u hm

theorem pevP_ok {L : Nat → Option En} (hL : CurR G a L) {ctx : List (Nat × Bool)} (hc : ∀ s w, (s, w) ∈ ctx → a.tmps.getD s Go.undef = .bool w) {o : Oper} {e : En} (h : pevP P L ctx o.op = some e) :
    ∃ v, (∀ w, (execOp a.eval o).run P w = .ok (.value v) w) ∧ EnR G e v := by
  unfold pevP at h
  split at h
  · rename_i c x y hop
    split at h
    · rename_i b hb
      split at h
      · rename_i u v hu hv
        simp only [Option.some.injEq] at h; subst h
        have hcb := unB (opnd_ok hL hc hb)
        refine ⟨.bool (cond b u v), fun w => ?_, mkB⟩
        cases b with
        | true =>
          have := unB (opnd_ok hL (extC_ok hL hc hcb) hu)
          simp [execOp, hop, hcb, this, asBool]
        | false =>
          have := unB (opnd_ok hL (extC_ok hL hc hcb) hv)
          simp [execOp, hop, hcb, this, asBool]
      · rename_i u hu _
        have hcb := unB (opnd_ok hL hc hb)
        split at h
        · simp only [Option.some.injEq] at h; subst h
          have := unB (opnd_ok hL (extC_ok hL hc hcb) hu)
          exact ⟨.bool u, fun w => by simp [execOp, hop, hcb, this, asBool], mkB⟩
        · simp at h
      · rename_i v hv _
        have hcb := unB (opnd_ok hL hc hb)
        split at h
        · simp only [Option.some.injEq] at h; subst h
          have := unB (opnd_ok hL (extC_ok hL hc hcb) hv)
          exact ⟨.bool v, fun w => by simp [execOp, hop, hcb, this, asBool], mkB⟩
        · simp at h
      · simp at h
    · simp at h
  · exact pev_ok (fun x e hx => opnd_ok hL hc hx) h

theorem yielded_iff {j : Nat} {sj : Nat} (hj : (ops[j]?).bind (·.dst) = some sj) (want : Bool) : (yielded ops a.tmps j == some want) = true ↔ a.tmps.getD sj Go.undef = .bool want := by
  unfold yielded
  rw [hj]
  simp only [Option.bind_some, Array.getD_eq_getD_getElem?]
  cases h : a.tmps[sj]? with
  | none => simp [Go.undef]
  | some v => cases v <;> simp [Go.undef]

/-- What one operation of the stretch does: it is carried out, or passed over, and the entry tells what its slot then holds. -/
theorem segOp_ok {L : Nat → Option En} (hL : CurR G a L) {o : Oper} {e : En} (h : segOp P ops L o = some e) :
    (Region.wanted o (yielded ops a.tmps) = true → ∃ v, (∀ w, (execOp a.eval o).run P w = .ok (.value v) w) ∧ EnA G a e v) ∧
    (Region.wanted o (yielded ops a.tmps) = false → EnA G a e Go.undef) := by
  unfold segOp at h
  unfold Region.wanted
  split at h
  · rename_i hg
    rw [hg]
    refine ⟨fun _ => ?_, fun hw => by simp at hw⟩
    obtain ⟨v, h1, h2⟩ := pevP_ok hL (by simp) h
    exact ⟨v, h1, EnA_of_EnR h2⟩
  · rename_i j want hg
    rw [hg]
    split at h
    · rename_i sj hj
      split at h
      · rename_i e' he
        simp only [Option.some.injEq] at h; subst h
        refine ⟨fun hw => ?_, fun hw => ?_⟩
        · have hs := (yielded_iff hj want).1 hw
          obtain ⟨v, h1, h2⟩ := pevP_ok hL (chain_ok hL hs) he
          exact ⟨v, h1, fun _ => EnA_of_EnR h2, fun hn => (hn hs).elim⟩
        · have hs : ¬ a.tmps.getD sj Go.undef = .bool want := fun hs => by
            have := (yielded_iff (a := a) hj want).2 hs
            simp only at hw
            rw [this] at hw; simp at hw
          exact ⟨fun hn => (hs hn).elim, fun _ => rfl⟩
      · simp at h
    · simp at h

theorem EnA_put {e : En} {v : Value} {d : Nat} {u : Value} (hn : noCnd.noCndE d e = true) (hd : d < a.tmps.size) (h : EnA G a e v) : EnA G (a.put (some d) u) e v := by
  induction e generalizing v with
  | cnd s w e ih =>
    unfold noCnd.noCndE at hn
    split at hn
    · simp at hn
    · rename_i hb
      have hne := Nat.ne_of_beq_eq_false hb
      refine ⟨fun h1 => ?_, fun h1 => ?_⟩
      · rw [getD_put hd, if_neg hne] at h1
        exact ih hn (h.1 h1)
      · rw [getD_put hd, if_neg hne] at h1
        exact h.2 h1
  | _ => exact h

theorem noCnd_lk : ∀ {cur : Env} {d s : Nat} {e : En}, noCnd d cur = true → lk cur s = some e → noCnd.noCndE d e = true
  | [], _, _, _, _, h => by simp [lk] at h
  | (t, e') :: r, d, s, e, hn, h => by
    rw [lk_cons] at h
    have h1 : noCnd.noCndE d e' = true ∧ noCnd d r = true := by
      cases e' <;> simp only [noCnd, noCnd.noCndE] at hn ⊢ <;> try exact ⟨trivial, hn⟩
      all_goals first
        | exact ⟨rfl, hn⟩
        | (split at hn
           · simp at hn
           · rename_i hb; simpa using hn)
    split at h
    · simp at h; subst h; exact h1.1
    · exact noCnd_lk h1.2 h

theorem look_put {d : Nat} {e : En} (s : Nat) : look E ((d, e) :: cur) s = if d = s then some e else look E cur s := by
  unfold look
  rw [lk_cons]
  by_cases h : d = s <;> simp [h]

theorem CurR_put (hN : a.tmps.size = N) (hE : ∀ s e, lk E s = some e → e.plain = true) (hL : CurR G a (look E cur)) {d : Nat} {e : En} {v : Value}
    (hd : (Nat.blt d N && (noCnd d cur && noCnd.noCndE d e)) = true) (hv : EnA G a e v) : CurR G (a.put (some d) v) (look E ((d, e) :: cur)) := by
  simp only [Bool.and_eq_true] at hd
  obtain ⟨hd0, hd2, hd3⟩ := hd
  have hd1 : d < a.tmps.size := by rw [hN]; exact Nat.le_of_ble_eq_true hd0
  intro s e' hs
  rw [look_put] at hs
  rw [getD_put hd1]
  by_cases h : d = s
  · subst h
    simp at hs; subst hs
    simpa using EnA_put hd3 hd1 hv
  · rw [if_neg h] at hs
    rw [if_neg (Ne.symm h)]
    have := hL s e' hs
    unfold look at hs
    split at hs
    · rename_i e'' he
      simp at hs; subst hs
      exact EnA_put (noCnd_lk hd2 he) hd1 this
    · have hp := hE s e' hs
      refine EnA_put ?_ hd1 this
      cases e' <;> first | rfl | simp [En.plain] at hp

/-- The walk of a region from its i-th operation on. -/
def wpFrom (P : Program) (ops : Array Oper) (Q : Exit → Act → World → Prop) (i : Nat) (a : Act) (w : World) : Prop := wpList P ops Q (ops.toList.drop i) a w

theorem wpFrom_cons {i : Nat} {o : Oper} (ho : ops[i]? = some o) : wpFrom P ops Q i a w =
    (if Region.wanted o (yielded ops a.tmps) then o.wp P a w (wpFrom P ops Q (i + 1)) Q ∨ (o.asks P a w ∧ LetsOut Q) else wpFrom P ops Q (i + 1) (a.put o.dst undef) w) := by
  have h : ops.toList.drop i = o :: ops.toList.drop (i + 1) := by
    have h1 : ops.toList[i]? = some o := by simpa using ho
    obtain ⟨hlt, hget⟩ := List.getElem?_eq_some_iff.1 h1
    rw [List.drop_eq_getElem_cons hlt, hget]
  unfold wpFrom
  rw [h]
  rfl

theorem wpFrom_end {i : Nat} (h : ops[i]? = none) (hq : Q .normal a w) : wpFrom P ops Q i a w := by
  have : ops.toList.drop i = [] := by
    rw [List.drop_eq_nil_iff]
    rw [Array.getElem?_eq_none_iff] at h
    simpa using h
  unfold wpFrom
  rw [this]
  exact hq

theorem wp_region_from {id : Nat} (h : wpFrom P ops Q 0 a w) : (Code.region id ops false).wp P Q a w := wp_region_list h

theorem wpFrom_value {i : Nat} {o : Oper} (ho : ops[i]? = some o) (hw : Region.wanted o (yielded ops a.tmps) = true) {v : Value} {w' : World}
    (hr : (execOp a.eval o).run P w = .ok (.value v) w') (h : wpFrom P ops Q (i + 1) (a.put o.dst v) w') : wpFrom P ops Q i a w := by
  rw [wpFrom_cons ho, if_pos hw]
  refine .inl ?_
  unfold Oper.wp
  rw [hr]
  exact h

theorem segs_ok (hN : a.tmps.size = N) (hdf : a.defers = []) (hE : ∀ s e, lk E s = some e → e.plain = true) :
    ∀ {n i : Nat} {a : Act} {cur cur' : Env}, a.tmps.size = N → a.defers = [] → CurR G a (look E cur) → segs P ops N E n i cur = some cur' →
      (∀ a', a'.tmps.size = N → a'.defers = [] → CurR G a' (look E cur') → wpFrom P ops Q (i + n) a' w) → wpFrom P ops Q i a w
  | 0, i, a, cur, cur', h1, h2, h3, hs, k => by
    simp only [segs, Option.some.injEq] at hs
    subst hs
    exact k a h1 h2 h3
  | n + 1, i, a, cur, cur', h1, h2, h3, hs, k => by
    unfold segs at hs
    split at hs
    · rename_i o ho
      split at hs
      · rename_i e he
        obtain ⟨k1, k2⟩ := segOp_ok (P := P) h3 he
        rw [wpFrom_cons ho]
        have step : ∀ v, EnA G a e v → wpFrom P ops Q (i + 1) (a.put o.dst v) w := by
          intro v hv
          split at hs
          · rename_i d hd
            split at hs
            · rename_i hc
              rw [hd]
              refine segs_ok hN hdf hE (by simp [Act.put, h1]) (by simp [Act.put, h2]) (CurR_put h1 hE h3 hc hv) hs ?_
              intro a' b1 b2 b3
              have := k a' b1 b2 b3
              rwa [show i + 1 + n = i + (n + 1) by omega]
            · simp at hs
          · rename_i hd
            rw [hd]
            refine segs_ok hN hdf hE h1 h2 h3 hs ?_
            intro a' b1 b2 b3
            have := k a' b1 b2 b3
            rwa [show i + 1 + n = i + (n + 1) by omega]
        split
        · rename_i hw
          obtain ⟨v, hr, hv⟩ := k1 hw
          refine .inl ?_
          unfold Oper.wp
          rw [hr]
          exact step v hv
        · rename_i hw
          exact step _ (k2 (by simpa using hw))
      · simp at hs
    · simp at hs

theorem rsv_ok {L : Nat → Option En} (hL : CurR G a L) : ∀ {e e' : En} {v : Value}, EnA G a e v → rsv L e = some e' → EnR G e' v
  | .cnd s w e, e', v, h, hr => by
    unfold rsv at hr
    split at hr
    · rename_i b hb
      have hs := unB (EnR_of_EnA (by rfl) (hL _ _ hb))
      split at hr
      · exact rsv_ok hL (h.1 hs) hr
      · exact rsv_ok hL (h.1 hs) hr
      · rename_i n1 n2
        simp only [Option.some.injEq] at hr; subst hr
        refine h.2 ?_
        rw [hs]
        intro hc
        simp only [Value.bool.injEq] at hc
        subst hc
        cases b with
        | true => exact n1 rfl rfl
        | false => exact n2 rfl rfl
    · rename_i hb
      have hs : a.tmps.getD s Go.undef = Go.undef := EnR_of_EnA (by rfl) (hL _ _ hb)
      simp only [Option.some.injEq] at hr; subst hr
      exact h.2 (by rw [hs]; simp [Go.undef])
    · simp at hr
  | .kv k x, e', v, h, hr => by simp [rsv] at hr; subst hr; exact h
  | .val u, e', v, h, hr => by simp [rsv] at hr; subst hr; exact h
  | .tl u k xs, e', v, h, hr => by simp [rsv] at hr; subst hr; exact h
  | .pl k xs, e', v, h, hr => by simp [rsv] at hr; subst hr; exact h
  | .tup l, e', v, h, hr => by simp [rsv] at hr; subst hr; exact h
  | .fm t i f, e', v, h, hr => by simp [rsv] at hr; subst hr; exact h
  | .fldA t i o, e', v, h, hr => by simp [rsv] at hr; subst hr; exact h
  | .elA k x o, e', v, h, hr => by simp [rsv] at hr; subst hr; exact h
  | .sA u w i o, e', v, h, hr => by simp [rsv] at hr; subst hr; exact h
  | .clo f l, e', v, h, hr => by simp [rsv] at hr; subst hr; exact h
  | .undef, e', v, h, hr => by simp [rsv] at hr; subst hr; exact h

theorem pickS_ok {L : Nat → Option En} (hL : CurR G a L) : ∀ {sl : List Nat} {D : Env}, pickS L sl = some D → ∀ s e, lk D s = some e → EnR G e (a.tmps.getD s Go.undef)
  | [], D, h, s, e, hs => by simp [pickS] at h; subst h; simp [lk] at hs
  | t :: r, D, h, s, e, hs => by
    unfold pickS at h
    split at h
    · rename_i e0 h0
      split at h
      · rename_i e1 h1
        split at h
        · rename_i D' hD
          simp only [Option.some.injEq] at h; subst h
          rw [lk_cons] at hs
          by_cases ht : t = s
          · subst ht
            simp at hs; subst hs
            exact rsv_ok hL (hL _ _ h0) h1
          · rw [if_neg ht] at hs
            exact pickS_ok hL hD s e hs
        · simp at h
      · simp at h
    · simp at h

theorem pickS_dom {L : Nat → Option En} : ∀ {sl : List Nat} {D : Env}, pickS L sl = some D → ∀ s, hasS sl s = true → ∃ e, lk D s = some e
  | [], D, h, s, hs => by simp [hasS] at hs
  | t :: r, D, h, s, hs => by
    unfold pickS at h
    split at h
    · split at h
      · split at h
        · rename_i D' hD
          simp only [Option.some.injEq] at h; subst h
          by_cases ht : t = s
          · subst ht; exact ⟨_, by rw [lk_cons]; simp; rfl⟩
          · unfold hasS at hs
            split at hs
            · rename_i hb; exact (ht (Nat.eq_of_beq_eq_true hb)).elim
            · obtain ⟨e, he⟩ := pickS_dom hD s hs
              exact ⟨e, by rw [lk_cons, if_neg ht]; exact he⟩
        · simp at h
      · simp at h
    · simp at h

theorem stale_ok {E : Env} {sl : List Nat} : ∀ {cur : Env}, stale E sl cur = true → ∀ s e, lk cur s = some e → hasS sl s = true ∨ lk E s = none
  | [], _, s, e, h => by simp [lk] at h
  | (t, e0) :: r, hst, s, e, h => by
    rw [lk_cons] at h
    unfold stale at hst
    by_cases ht : t = s
    · subst ht
      split at hst
      · rename_i hh; exact .inl hh
      · split at hst
        · rename_i hn; exact .inr hn
        · simp at hst
    · rw [if_neg ht] at h
      have : stale E sl r = true := by
        split at hst
        · exact hst
        · split at hst
          · exact hst
          · simp at hst
      exact stale_ok this s e h

theorem EnvR.plain (hE : EnvR G N a E) : ∀ s e, lk E s = some e → e.plain = true := by
  intro s e h
  have := hE.2.2 s e h
  cases e <;> first | rfl | exact this.elim

/-- A stretch of n operations from the i-th on; D: what is to be known of the slots that it writes. -/
theorem seg (n : Nat) (D : Env) {i : Nat} (hE : EnvR G N a E) (hs : segD P ops N E n i (fsts D) = some D)
    (k : ∀ a', EnvR G N a' (D ++ E) → wpFrom P ops Q (i + n) a' w) : wpFrom P ops Q i a w := by
  unfold segD at hs
  split at hs
  · rename_i cur hc
    split at hs
    · rename_i hst
      refine segs_ok (G := G) hE.1 hE.2.1 hE.plain (cur := []) hE.1 hE.2.1 ?_ hc ?_
      · intro s e h
        simp only [look, lk] at h
        exact EnA_of_EnR (hE.2.2 s e h)
      · intro a' h1 h2 h3
        refine k a' ⟨h1, h2, ?_⟩
        intro s e h
        rw [lk_append] at h
        cases hD : lk D s with
        | some e' =>
          rw [hD] at h
          simp at h; subst h
          exact pickS_ok h3 hs s _ hD
        | none =>
          rw [hD] at h
          simp at h
          have hcur : lk cur s = none := by
            cases hcs : lk cur s with
            | none => rfl
            | some e1 =>
              rcases stale_ok hst s e1 hcs with h4 | h4
              · obtain ⟨e2, he2⟩ := pickS_dom hs s h4
                rw [hD] at he2; simp at he2
              · rw [h4] at h; simp at h
          have hl : look E cur s = some e := by unfold look; rw [hcur]; exact h
          exact EnR_of_EnA (hE.plain s e h) (h3 s e hl)
    · simp at hs
  · simp at hs

theorem EnvR.re (hE : EnvR G N a E) (s : Nat) {e e' : En} (h : lk E s = some e) (he : e = e') : EnvR G N a ((s, e') :: E) := by
  refine ⟨hE.1, hE.2.1, fun t e2 ht => ?_⟩
  rw [lk_cons] at ht
  by_cases hst : s = t
  · subst hst; simp at ht; subst ht; subst he; exact hE.2.2 s _ h
  · rw [if_neg hst] at ht; exact hE.2.2 t _ ht

/-- A Bool in a slot is known now. -/
theorem EnvR.setB (hE : EnvR G N a E) (s : Nat) {b c : Bool} (h : lk E s = some (.kv .bool b)) (hb : b = c) : EnvR G N a ((s, .kv .bool c) :: E) :=
  hE.re s h (by rw [hb])

theorem EnvR.nilP (hE : EnvR G N a E) (s t : Nat) (h : lk E s = some (.val (.pointer none))) : EnvR G N a ((s, .kv (.ptr t) none) :: E) := by
  refine ⟨hE.1, hE.2.1, fun u e2 ht => ?_⟩
  rw [lk_cons] at ht
  by_cases hst : s = u
  · subst hst
    simp at ht; subst ht
    have := hE.2.2 s _ h
    simp only [EnR] at this
    rw [this]
    exact VR_ptr.2 ⟨none, rfl, rfl⟩
  · rw [if_neg hst] at ht; exact hE.2.2 u _ ht

theorem EnvR.nilL (hE : EnvR G N a E) (s : Nat) (k : Kd) (h : lk E s = some (.val (.slice none 0 0))) : EnvR G N a ((s, .kv (.list k) []) :: E) := by
  refine ⟨hE.1, hE.2.1, fun u e2 ht => ?_⟩
  rw [lk_cons] at ht
  by_cases hst : s = u
  · subst hst
    simp at ht; subst ht
    have := hE.2.2 s _ h
    simp only [EnR] at this
    rw [this]
    exact VR_list.2 ⟨none, 0, rfl, Nat.zero_le _, .inl rfl⟩
  · rw [if_neg hst] at ht; exact hE.2.2 u _ ht

theorem EnvR.unTl (hE : EnvR G N a E) (s : Nat) {v : Value} {k : Kd} {xs : List k.den} (h : lk E s = some (.tl v k xs)) : EnvR G N a ((s, .kv (.list k) xs) :: E) := by
  refine ⟨hE.1, hE.2.1, fun u e2 ht => ?_⟩
  rw [lk_cons] at ht
  by_cases hst : s = u
  · subst hst
    simp at ht; subst ht
    exact (hE.2.2 s _ h).2
  · rw [if_neg hst] at ht; exact hE.2.2 u _ ht

end
end Go.Proofs.Ytlfemhkabjafeaa.M
