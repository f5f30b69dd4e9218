/- Own library, part 7: what a function is said to do; calls; entering and leaving a body. -/
import Derived.Test.YtlfemhkabjafeaaB6
set_option linter.unusedVariables false
set_option linter.unusedSimpArgs false
namespace Go.Proofs.Ytlfemhkabjafeaa.M

def callable (P : Program) (f : Nat) : Bool :=
  match P.funcs[f]? with
  | some fn => !(fn.name == "runtime.NumGoroutine") && !fn.body.isNone
  | none => false

def NoHole (L : List LS) : Prop := ∀ t i f, holeAt t i f L = none

theorem NoHole.nil : NoHole [] := fun _ _ _ => rfl

/-- An entry seen as a value of kind k. -/
def coeK (k : Kd) (e : En) : Option k.den :=
  match e with
  | .kv k' x => if h : k' = k then some (h ▸ x) else none
  | .val (.pointer none) => (match k with
    | .ptr _ => some none
    | _ => none)
  | .val (.slice none 0 0) => (match k with
    | .list _ => some []
    | _ => none)
  | .tl _ k' xs => (match k with
    | .list k'' => if h : k' = k'' then some (h ▸ xs) else none
    | _ => none)
  | .pl k' xs => (match k with
    | .list k'' => if h : k' = k'' then some (h ▸ xs) else none
    | _ => none)
  | .fldA t i 0 => (match k with
    | .ptr t' => if t = t' then some (some i) else none
    | _ => none)
  | _ => none

theorem coeK_ok {G : Gh} {k : Kd} {e : En} {x : k.den} {v : Value} (h : coeK k e = some x) (he : EnR G e v) : EnR G (.kv k x) v := by
  unfold coeK at h
  split at h
  · split at h
    · rename_i hk; subst hk
      simp only [Option.some.injEq] at h; subst h; exact he
    · simp at h
  · split at h
    · simp only [Option.some.injEq] at h; subst h
      simp only [EnR] at he; subst he
      exact VR_ptr.2 ⟨none, rfl, rfl⟩
    · simp at h
  · split at h
    · simp only [Option.some.injEq] at h; subst h
      simp only [EnR] at he; subst he
      exact VR_list.2 ⟨none, 0, rfl, Nat.zero_le _, .inl rfl⟩
    · simp at h
  · split at h
    · split at h
      · rename_i hk; subst hk
        simp only [Option.some.injEq] at h; subst h; exact he.2
      · simp at h
    · simp at h
  · split at h
    · split at h
      · rename_i hk; subst hk
        simp only [Option.some.injEq] at h; subst h
        obtain ⟨b, c, ty, n, rfl, hn, hb, hs, h1, hr⟩ := he
        refine VR_list.2 ⟨_, n, rfl, hn, .inr ⟨b, 0, c.toList, rfl, ?_, by simpa using hr⟩⟩
        unfold Gh.pre; rw [hb]
      · simp at h
    · simp at h
  · split at h
    · split at h
      · rename_i hk; subst hk
        simp only [Option.some.injEq] at h; subst h
        obtain ⟨b, hb, rfl⟩ := he
        exact VR_ptr.2 ⟨_, rfl, b, rfl, hb⟩
      · simp at h
    · simp at h
  · simp at h

/-- The entry as the expected one has it. -/
def coeE (want : En) (e : En) : Option En :=
  match want with
  | .kv k _ => (match coeK k e with
    | some x => some (.kv k x)
    | none => none)
  | _ => some e

theorem coeE_ok {G : Gh} {want e e' : En} {v : Value} (h : coeE want e = some e') (he : EnR G e v) : EnR G e' v := by
  unfold coeE at h
  split at h
  · split at h
    · rename_i x hx
      simp only [Option.some.injEq] at h; subst h
      exact coeK_ok hx he
    · simp at h
  · simp only [Option.some.injEq] at h; subst h; exact he

/-- What a call leaves. -/
def PostC (G : Gh) (R : En) (T' : Tabs) (L : List LS) : Ending → World → Prop
  | .returned v, w' => ∃ G', G.le G' ∧ EnR G' R v ∧ Holds w' G' T' L
  | .outgrown, _ => False
  | .panicked _, _ => False

/-- Function f, called with arguments of these entries over these tables, comes to this entry and these tables; all else stays. -/
structure Spec (P : Program) (f : Nat) (As : List En) (T : Tabs) (R : En) (T' : Tabs) : Prop where
  ok : callable P f = true
  run : ∀ (args : List Value) (w : World) (G : Gh) (L : List LS), All2 (EnR G) As args → Holds w G T L → NoHole L → Calls P f args.toArray w (PostC G R T' L)

section
variable {P : Program} {w : World} {G : Gh} {T T' : Tabs} {Ls : List LS} {a : Act} {N : Nat} {E : Env} {ops : Array Oper} {Q : Exit → Act → World → Prop}

theorem callFunc_enter {f : Nat} (h : callable P f = true) (args : Array Value) : (callFunc f args).run P w = .ok (.enter f args) w := by
  unfold callable at h
  cases hf : P.funcs[f]? with
  | none => rw [hf] at h; simp at h
  | some fn =>
    rw [hf] at h
    simp only [Bool.and_eq_true, Bool.not_eq_true', beq_eq_false_iff_ne] at h
    have h2 : fn.body ≠ none := by
      intro hb; rw [hb] at h; simp at h
    simp [callFunc, hf, h.1, h2]

def enOps (look : Nat → Option En) : List En → List Operand → Option (List En)
  | [], [] => some []
  | want :: ws, x :: r => (match opnd look [] x with
    | some e => (match coeE want e with
      | some e' => (match enOps look ws r with
        | some l => some (e' :: l)
        | none => none)
      | none => none)
    | none => none)
  | _, _ => none

theorem enOps_ok {L : Nat → Option En} (hL : CurR G a L) : ∀ {ws : List En} {xs : List Operand} {es : List En}, enOps L ws xs = some es → All2 (EnR G) es (xs.map a.eval)
  | [], [], es, h => by simp [enOps] at h; subst h; trivial
  | want :: ws, x :: xs, es, h => by
    unfold enOps at h
    split at h
    · rename_i e he
      split at h
      · rename_i e' he'
        split at h
        · rename_i l hl
          simp only [Option.some.injEq] at h; subst h
          exact ⟨coeE_ok he' (opnd_ok hL (by simp) he), enOps_ok hL hl⟩
        · simp at h
      · simp at h
    · simp at h
  | [], _ :: _, es, h => by simp [enOps] at h
  | _ :: _, [], es, h => by simp [enOps] at h

/-- Is the operation carried out? By what is known of its guard. -/
def goes (ops : Array Oper) (L : Nat → Option En) (o : Oper) : Bool :=
  match o.guard with
  | none => true
  | some (j, want) => (match (ops[j]?).bind (·.dst) with
    | some sj => (match L sj with
      | some (.kv .bool b) => (match b, want with
        | true, true => true
        | false, false => true
        | _, _ => false)
      | _ => false)
    | none => false)

theorem goes_ok {L : Nat → Option En} (hL : CurR G a L) {o : Oper} (h : goes ops L o = true) : Region.wanted o (yielded ops a.tmps) = true := by
  unfold goes at h
  unfold Region.wanted
  split at h
  · rename_i hg; rw [hg]
  · rename_i j want hg
    rw [hg]
    split at h
    · rename_i sj hj
      split at h
      · rename_i b hb
        have hsb := unB (EnR_of_EnA rfl (hL _ _ hb))
        refine (yielded_iff hj want).2 ?_
        rw [hsb]
        split at h
        · rfl
        · rfl
        · simp at h
      · simp at h
    · simp at h

/-- A call of a named function at place i: which, with what, and where its result goes. -/
def callE (ops : Array Oper) (E : Env) (i : Nat) (ws : List En) : Option (Nat × List En × Option Nat) :=
  match ops[i]? with
  | some o => (match goes ops (look E []) o with
    | true => (match o.op with
      | .call c => (match c.callee with
        | .value (.func f) => (match enOps (look E []) ws c.args.toList with
          | some es => some (f, es, o.dst)
          | none => none)
        | _ => none)
      | _ => none)
    | false => none)
  | none => none

def putE (d : Option Nat) (R : En) (E : Env) : Env :=
  match d with
  | some d => (d, R) :: E
  | none => E

def dstOK (d : Option Nat) (N : Nat) : Bool :=
  match d with
  | some d => Nat.blt d N
  | none => true

theorem EnvR.putO (hE : EnvR G N a E) {d : Option Nat} (hd : dstOK d N = true) {v : Value} {e : En} (hv : EnR G e v) : EnvR G N (a.put d v) (putE d e E) := by
  cases d with
  | none => exact hE
  | some d => exact hE.put (Nat.le_of_ble_eq_true hd) hv

theorem stepCall {i f : Nat} {As : List En} {R : En} {d : Option Nat} (hS : Spec P f As T R T') (hE : EnvR G N a E) (hH : Holds w G T Ls) (hN : NoHole Ls)
    (hc : callE ops E i As = some (f, As, d)) (hd : dstOK d N = true) (hout : True)
    (k : ∀ a' w' G', G.le G' → EnvR G' N a' (putE d R E) → Holds w' G' T' Ls → wpFrom P ops Q (i + 1) a' w') : wpFrom P ops Q i a w := by
  unfold callE at hc
  split at hc
  · rename_i o ho
    split at hc
    · rename_i hgo
      have hw := goes_ok (CurR_start hE) hgo
      split at hc
      · rename_i c hop
        split at hc
        · rename_i f' hcal
          split at hc
          · rename_i es hes
            simp only [Option.some.injEq, Prod.mk.injEq] at hc
            obtain ⟨rfl, rfl, rfl⟩ := hc
            rw [wpFrom_cons ho, if_pos hw]
            refine .inl ?_
            unfold Oper.wp
            have hr : (execOp a.eval o).run P w = .ok (.enter f' (c.args.toList.map a.eval).toArray) w := by
              have hargs : (c.args.map a.eval) = (c.args.toList.map a.eval).toArray := by
                apply Array.ext'; simp
              simp [execOp, hop, resolve, hcal, Act.eval, Deferred.ofValue, invoke, callFunc_enter hS.ok]
              exact hargs
            rw [hr]
            refine (hS.run _ w G Ls (enOps_ok (CurR_start hE) hes) hH hN).mono ?_
            intro e w' hp
            cases e with
            | returned v =>
              obtain ⟨G', hle, hv, hH'⟩ := hp
              exact k _ _ G' hle ((hE.mono hle).putO hd hv) hH'
            | panicked c => exact hp.elim
            | outgrown => exact False.elim hp
          · simp at hc
        · simp at hc
      · simp at hc
    · simp at hc
  · simp at hc

/-! ### Entering and leaving -/
def envOf : Nat → List En → Env
  | _, [] => []
  | i, e :: r => (i, e) :: envOf (i + 1) r

theorem envOf_ok : ∀ {As : List En} {vs : List Value} {i : Nat} {t : Array Value}, All2 (EnR G) As vs → (∀ j, j < vs.length → t[i + j]? = vs[j]?) →
    ∀ s e, lk (envOf i As) s = some e → EnR G e (t.getD s Go.undef)
  | [], _, _, _, _, _, s, e, h => by simp [envOf, lk] at h
  | x :: As, v :: vs, i, t, ⟨h1, h2⟩, ht, s, e, h => by
    unfold envOf at h
    rw [lk_cons] at h
    by_cases hs : i = s
    · subst hs
      simp at h; subst h
      have := ht 0 (by simp)
      simp only [Nat.add_zero, List.getElem?_cons_zero] at this
      rw [Array.getD_eq_getD_getElem?, this]; exact h1
    · rw [if_neg hs] at h
      refine envOf_ok h2 (fun j hj => ?_) s e h
      have := ht (j + 1) (by simp; omega)
      simpa [Nat.add_comm 1 j, Nat.add_assoc] using this
  | _ :: _, [], _, _, h, _, _, _, _ => h.elim

/-- The body's post. -/
abbrev PostB (P : Program) (fn : Func) (G : Gh) (R : En) (T' : Tabs) (L : List LS) : Exit → Act → World → Prop := bodyPost P fn (PostC G R T' L)

theorem Spec.intro {f : Nat} {fn : Func} {c : Code} {As : List En} {R : En} (hf : P.funcs[f]? = some fn) (hok : callable P f = true) (hb : fn.body = some c) (hn : Nat.ble As.length fn.ntmps = true)
    (h : ∀ (a : Act) (w : World) (G : Gh) (L : List LS), EnvR G fn.ntmps a (envOf 0 As) → Holds w G T L → NoHole L → c.wp P (PostB P fn G R T' L) a w) : Spec P f As T R T' := by
  refine ⟨hok, fun args w G L hA hH hN => ?_⟩
  have hlen : As.length = args.length := hA.length
  have hle : args.length ≤ fn.ntmps := by rw [← hlen]; exact Nat.le_of_ble_eq_true hn
  refine calls_of_wp hf hb (h _ w G L ⟨?_, rfl, ?_⟩ hH hN)
  · simp; omega
  · refine envOf_ok hA (fun j hj => ?_)
    rw [Nat.zero_add, Array.getElem?_append_left (by simpa using hj)]
    simp


def outE (E : Env) (t : Nat) (R : En) : Option En :=
  match lk E t with
  | some e => coeE R e
  | none => none

theorem ret1 {fn : Func} {t : Nat} {G0 : Gh} {R : En} {L : List LS} (hr : fn.results = #[.tmp t]) (hE : EnvR G N a E) (hle : G0.le G) (hH : Holds w G T L) (he : outE E t R = some R) : PostB P fn G0 R T L .ret a w := by
  refine ⟨hE.2.1, a.tmps.getD t Go.undef, results_tmp hr _ _ _, G, hle, ?_, hH⟩
  unfold outE at he
  split at he
  · rename_i e h1; exact coeE_ok he (hE.2.2 t e h1)
  · simp at he

theorem ret0 {fn : Func} {G0 : Gh} {L : List LS} (hr : fn.results = #[]) (hE : EnvR G N a E) (hle : G0.le G) (hH : Holds w G T L) : PostB P fn G0 (.tup []) T L .ret a w :=
  ⟨hE.2.1, .tuple #[], results_none hr _ _ _, G, hle, ⟨#[], rfl, trivial⟩, hH⟩

theorem end0 {fn : Func} {G0 : Gh} {L : List LS} (hr : fn.results = #[]) (hE : EnvR G N a E) (hle : G0.le G) (hH : Holds w G T L) : PostB P fn G0 (.tup []) T L .normal a w :=
  ⟨hE.2.1, .tuple #[], results_none hr _ _ _, G, hle, ⟨#[], rfl, trivial⟩, hH⟩

def kvs (E : Env) : List Kd → List Nat → Option (List KV)
  | [], [] => some []
  | k :: ks, t :: r => (match lk E t with
    | some e => (match coeK k e with
      | some x => (match kvs E ks r with
        | some l => some (⟨k, x⟩ :: l)
        | none => none)
      | none => none)
    | _ => none)
  | _, _ => none

def kdsOf : List KV → List Kd
  | [] => []
  | x :: r => x.k :: kdsOf r

theorem kvs_ok (hE : EnvR G N a E) : ∀ {ks : List Kd} {ts : List Nat} {l : List KV}, kvs E ks ts = some l → All2 (fun kv u => VR G kv.k kv.x u) l (ts.map fun t => a.tmps.getD t Go.undef)
  | [], [], l, h => by simp [kvs] at h; subst h; trivial
  | k :: ks, t :: r, l, h => by
    unfold kvs at h
    split at h
    · rename_i e he
      split at h
      · rename_i x hx
        split at h
        · rename_i l' hl
          simp only [Option.some.injEq] at h; subst h
          exact ⟨coeK_ok hx (hE.2.2 t e he), kvs_ok hE hl⟩
        · simp at h
      · simp at h
    · simp at h
  | [], _ :: _, l, h => by simp [kvs] at h
  | _ :: _, [], l, h => by simp [kvs] at h

theorem ret2 {fn : Func} {t1 t2 : Nat} {G0 : Gh} {l : List KV} {L : List LS} (hr : fn.results = #[.tmp t1, .tmp t2]) (hE : EnvR G N a E) (hle : G0.le G) (hH : Holds w G T L) (he : kvs E (kdsOf l) [t1, t2] = some l) :
    PostB P fn G0 (.tup l) T L .ret a w :=
  ⟨hE.2.1, .tuple #[a.tmps.getD t1 Go.undef, a.tmps.getD t2 Go.undef], results_tmp2 hr _ _ _, G, hle, ⟨_, rfl, kvs_ok hE he⟩, hH⟩

theorem ret3 {fn : Func} {t1 t2 t3 : Nat} {G0 : Gh} {l : List KV} {L : List LS} (hr : fn.results = #[.tmp t1, .tmp t2, .tmp t3]) (hE : EnvR G N a E) (hle : G0.le G) (hH : Holds w G T L) (he : kvs E (kdsOf l) [t1, t2, t3] = some l) :
    PostB P fn G0 (.tup l) T L .ret a w :=
  ⟨hE.2.1, .tuple #[a.tmps.getD t1 Go.undef, a.tmps.getD t2 Go.undef, a.tmps.getD t3 Go.undef], by simp [results, hr], G, hle, ⟨_, rfl, kvs_ok hE he⟩, hH⟩

/-- A test. -/
theorem condE {c : Operand} {x y : Code} {b : Bool} (hE : EnvR G N a E) (hc : opnd (look E []) [] c = some (.kv .bool b)) (ht : b = true → x.wp P Q a w) (hf : b = false → y.wp P Q a w) : (Code.cond c x y).wp P Q a w :=
  wp_cond_split (unB (opnd_ok (CurR_start hE) (by simp) hc)) ht hf

theorem condT {c : Operand} {x y : Code} {b : Bool} (hE : EnvR G N a E) (hc : opnd (look E []) [] c = some (.kv .bool b)) (hb : b = true) (ht : x.wp P Q a w) : (Code.cond c x y).wp P Q a w :=
  condE hE hc (fun _ => ht) (fun h => by rw [hb] at h; simp at h)

theorem condF {c : Operand} {x y : Code} {b : Bool} (hE : EnvR G N a E) (hc : opnd (look E []) [] c = some (.kv .bool b)) (hb : b = false) (hf : y.wp P Q a w) : (Code.cond c x y).wp P Q a w :=
  condE hE hc (fun h => by rw [hb] at h; simp at h) (fun _ => hf)

/-- A loop at its head. -/
def Rnd (P : Program) (c : Code) (Q : Exit → Act → World → Prop) (a : Act) (w : World) : Prop :=
  ∀ (b : Frame) (k : List Item) (cs : List Frame), ∃ e a' w', Q e a' w' ∧ Arrives P (lone (b.at a (.code c :: .inLoop c :: k)) cs w) b k cs e a' w'

theorem wp_loop_rnd {c : Code} (h : Rnd P c Q a w) : (Code.loop c).wp P Q a w := fun b k cs =>
  let ⟨e, a', w', q, r⟩ := h b k cs
  ⟨e, a', w', q, .of_steps (.one step_loop) r⟩

theorem rnd_step {c : Code} (h : c.wp P (Exit.then (Rnd P c Q) Q) a w) : Rnd P c Q a w := by
  intro b k cs
  obtain ⟨e, a₁, w₁, hq, harr⟩ := h b (.inLoop c :: k) cs
  cases e with
  | normal =>
    obtain ⟨e₂, a₂, w₂, hq₂, harr₂⟩ := hq b k cs
    exact ⟨e₂, a₂, w₂, hq₂, .of_steps (Steps.trans harr (.one step_inLoop)) harr₂⟩
  | exit id => exact ⟨_, a₁, w₁, hq, .pass (x := .inLoop c) rfl (fun _ _ => .inl (by simp)) harr⟩
  | goto l => exact ⟨_, a₁, w₁, hq, .pass (x := .inLoop c) rfl (fun _ _ => .inl (by simp)) harr⟩
  | ret => exact ⟨_, a₁, w₁, hq, .pass (x := .inLoop c) rfl (fun _ _ => .inl (by simp)) harr⟩
  | panic ch => exact ⟨_, a₁, w₁, hq, .pass (x := .inLoop c) rfl (fun _ _ => .inl (by simp)) harr⟩
  | outgrown => exact ⟨_, a₁, w₁, hq, .pass (x := .inLoop c) rfl (fun _ _ => .inl (by simp)) harr⟩

theorem rnd_mono {c : Code} {Q' : Exit → Act → World → Prop} (h : Rnd P c Q a w) (hq : ∀ e a w, Q e a w → Q' e a w) : Rnd P c Q' a w :=
  fun b k cs => let ⟨e, a', w', q, r⟩ := h b k cs; ⟨e, a', w', hq _ _ _ q, r⟩
end
end Go.Proofs.Ytlfemhkabjafeaa.M
