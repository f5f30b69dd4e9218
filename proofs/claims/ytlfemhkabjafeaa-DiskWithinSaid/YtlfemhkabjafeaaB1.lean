/- Own library, part 1: an evaluator of the operations that look at no memory and cannot fail, over what is known of the slots, and its soundness. -/
import Derived.Test.YtlfemhkabjafeaaB0
set_option linter.unusedVariables false
set_option linter.unusedSimpArgs false
namespace Go.Proofs.Ytlfemhkabjafeaa.M

def hasC : List (Nat × Bool) → Nat → Bool → Bool
  | [], _, _ => false
  | (s, w) :: r, t, u => match Nat.beq s t with
    | true => (match w, u with | true, true => true | false, false => true | _, _ => hasC r t u)
    | false => hasC r t u

def deref (ctx : List (Nat × Bool)) : En → Option En
  | .cnd s w e => match hasC ctx s w with
    | true => deref ctx e
    | false => none
  | e => some e

def constEn : Value → En
  | .bool b => .kv .bool b
  | .int k n => .kv (.int k) n
  | .string s => .kv .str s.data.toList
  | v => .val v

def opnd (look : Nat → Option En) (ctx : List (Nat × Bool)) : Operand → Option En
  | .tmp t => match look t with
    | some e => deref ctx e
    | none => none
  | .const v => some (constEn v)
  | .func f => some (.clo f [])
  | .global _ => none

def bopI (op : BinOp) (k : IntKind) (a b : Int) : Option En :=
  match op with
  | .add => some (.kv (.int k) (k.wrap (a + b)))
  | .sub => some (.kv (.int k) (k.wrap (a - b)))
  | .mul => some (.kv (.int k) (k.wrap (a * b)))
  | .and => some (.kv (.int k) (k.wrap (BitVec.ofInt k.bits a &&& BitVec.ofInt k.bits b).toNat))
  | .or => some (.kv (.int k) (k.wrap (BitVec.ofInt k.bits a ||| BitVec.ofInt k.bits b).toNat))
  | .xor => some (.kv (.int k) (k.wrap (BitVec.ofInt k.bits a ^^^ BitVec.ofInt k.bits b).toNat))
  | .andNot => some (.kv (.int k) (k.wrap (BitVec.ofInt k.bits a &&& ~~~(BitVec.ofInt k.bits b)).toNat))
  | .eql => some (.kv .bool (a == b))
  | .neq => some (.kv .bool (a != b))
  | .lss => some (.kv .bool (decide (a < b)))
  | .leq => some (.kv .bool (decide (a ≤ b)))
  | .gtr => some (.kv .bool (decide (a > b)))
  | .geq => some (.kv .bool (decide (a ≥ b)))
  | _ => none

def bopS (op : BinOp) (a b : List UInt8) : Option En :=
  match op with
  | .eql => some (.kv .bool (a == b))
  | .neq => some (.kv .bool (!(a == b)))
  | .lss => some (.kv .bool (Op.bytesLess a b))
  | .leq => some (.kv .bool (Op.bytesLess a b || a == b))
  | .gtr => some (.kv .bool (!(Op.bytesLess a b || a == b)))
  | .geq => some (.kv .bool (!(Op.bytesLess a b)))
  | _ => none

def bopB (d : Option TypeDesc) (op : BinOp) (a b : Bool) : Option En :=
  match d with
  | some .bool => (match op with
    | .eql => some (.kv .bool (a == b))
    | .neq => some (.kv .bool (!(a == b)))
    | _ => none)
  | _ => none

def bopP (d : Option TypeDesc) (op : BinOp) (p : Option Nat) : Option En :=
  match d with
  | some (.pointer _) => (match op with
    | .eql => some (.kv .bool p.isNone)
    | .neq => some (.kv .bool (!p.isNone))
    | _ => none)
  | _ => none

def bop (P : Program) (op : BinOp) (t : TypeId) (x y : En) : Option En :=
  match x, y with
  | .kv (.int k) a, .kv (.int k') b =>
    if k = k' then bopI op k a b else none
  | .kv .str a, .kv .str b => bopS op a b
  | .kv .bool a, .kv .bool b => bopB (P.underlying t) op a b
  | .kv (.ptr _) p, .val (.pointer none) => bopP (P.underlying t) op p
  | _, _ => none

def uop (op : UnOp) (x : En) : Option En :=
  match op, x with
  | .not, .kv .bool b => some (.kv .bool (!b))
  | .neg, .kv (.int k) n => some (.kv (.int k) (k.wrap (0 - n)))
  | .xor, .kv (.int k) n => some (.kv (.int k) (k.wrap (BitVec.ofInt k.bits (if k.signed then -1 else k.max) ^^^ BitVec.ofInt k.bits n).toNat))
  | _, _ => none

def cnv (P : Program) (src dst : TypeId) (x : En) : Option En :=
  match P.underlying src, P.underlying dst, x with
  | some _, some (.int k), .kv (.int _) n => some (.kv (.int k) (k.wrap n))
  | some _, some .string, .kv .str s => some (.kv .str s)
  | _, _, _ => none

def sizeT (P : Program) (t : TypeId) : Option Nat := (P.info? t).map (·.size)
def aggT (P : Program) (t : TypeId) : Option Bool :=
  match P.underlying t with
  | some (.struct _) => some true
  | some (.array _ _) => some true
  | some _ => some false
  | none => none

def fieldT (P : Program) (s : TypeId) (f : Nat) : Option Field :=
  match P.underlying s with
  | some (.struct fs) => fs[f]?
  | _ => none

def offT (P : Program) (s : TypeId) (f : Nat) : Option Nat :=
  match fieldT P s f with
  | some fd => (match sizeT P fd.type with
    | some (n + 1) => some fd.offset
    | _ => none)
  | none => none

def fadr (P : Program) (s : TypeId) (f : Nat) (x : En) : Option En :=
  match offT P s f with
  | some o => (match x with
    | .kv (.ptr t) (some i) => some (.fldA t i o)
    | .fldA t i off => some (.fldA t i (off + o))
    | .elA k y off => some (.elA k y (off + o))
    | .sA u w i off => some (.sA u w i (off + o))
    | .val (.pointer (some ⟨b, off, none⟩)) => some (.val (.pointer (some ⟨b, off + o, none⟩)))
    | _ => none)
  | none => none

def nilC (x : En) : Option En :=
  match x with
  | .fldA t i off => some (.fldA t i off)
  | .elA k y off => some (.elA k y off)
  | .sA u w i off => some (.sA u w i off)
  | .val (.pointer (some a)) => some (.val (.pointer (some a)))
  | .val (.func (.func f) b c) => some (.val (.func (.func f) b c))
  | _ => none

def lenE (d : Option TypeDesc) (x : En) : Option En :=
  match d, x with
  | some .string, .kv .str s => some (.kv (.int .i64) (s.length : Int))
  | some (.slice _), .kv (.list _) xs => some (.kv (.int .i64) (xs.length : Int))
  | some (.slice _), .pl _ xs => some (.kv (.int .i64) (xs.length : Int))
  | some (.slice _), .tl _ _ xs => some (.kv (.int .i64) (xs.length : Int))
  | some (.slice _), .val (.slice _ n _) => some (.kv (.int .i64) (n : Int))
  | _, _ => none

def minmax (b : Builtin) (x y : En) : Option En :=
  match b, x, y with
  | .max, .kv (.int k) a, .kv (.int _) b => some (.kv (.int k) (if b > a then b else a))
  | .min, .kv (.int k) a, .kv (.int _) b => some (.kv (.int k) (if b < a then b else a))
  | _, _, _ => none

/-- A field of a struct's value: how many cells lie before it, its kind, its value. -/
def fldK : (k : Kd) → k.den → Nat → Option (Nat × KV)
  | .pair a _, x, 0 => some (0, ⟨a, x.1⟩)
  | .pair a b, x, f + 1 => match fldK b x.2 f with
    | some (o, r) => some (a.w + o, r)
    | none => none
  | _, _, _ => none

def fieldE (P : Program) (t : TypeId) (f : Nat) (x : En) : Option En :=
  match x, fieldT P t f with
  | .kv (.pair a b) y, some fd => (match fldK (.pair a b) y f with
    | some (o, ⟨k, z⟩) =>
      if o = fd.offset ∧ sizeT P fd.type = some k.w ∧ aggT P fd.type = some k.agg then some (.kv k z) else none
    | none => none)
  | _, _ => none

def pevB (P : Program) (b : Builtin) (args : List (Option En)) (ts : List TypeId) : Option En :=
  match b, args with
  | .len, [some x] => (match ts with
    | t :: _ => lenE (P.underlying t) x
    | [] => none)
  | .max, [some x, some y] => minmax .max x y
  | .min, [some x, some y] => minmax .min x y
  | _, _ => none

def pev (P : Program) (L : Operand → Option En) : Op → Option En
  | .move x => L x
  | .assign x => L x
  | .binOp op t x y _ => (match L x, L y with
    | some a, some b => bop P op t a b
    | _, _ => none)
  | .unOp op _ x => (match L x with
    | some a => uop op a
    | none => none)
  | .convert src dst x => (match L x with
    | some a => cnv P src dst a
    | none => none)
  | .extract x i => (match L x with
    | some (.tup l) => (match l[i]? with
      | some ⟨k, y⟩ => some (.kv k y)
      | none => none)
    | _ => none)
  | .fieldAddr s x f => (match L x with
    | some a => fadr P s f a
    | none => none)
  | .nilCheck x => (match L x with
    | some a => nilC a
    | none => none)
  | .field t x f => (match L x with
    | some a => fieldE P t f a
    | none => none)
  | .call c => (match c.callee with
    | .builtin b => pevB P b (c.args.toList.map L) c.argTypes.toList
    | _ => none)
  | _ => none

/-! ### Soundness -/
theorem size_mk (l : List UInt8) : (ByteArray.mk l.toArray).size = l.length := by simp [ByteArray.size]

section
variable {P : Program} {G : Gh} {a : Act}

theorem VR_int {k : IntKind} {n : Int} {v : Value} : VR G (.int k) n v ↔ v = .int k n := by simp [VR, Kd.agg, Kr]
theorem VR_bool {b : Bool} {v : Value} : VR G .bool b v ↔ v = .bool b := by simp [VR, Kd.agg, Kr]
theorem VR_str {s : List UInt8} {v : Value} : VR G .str s v ↔ v = .string ⟨s.toArray⟩ := by simp [VR, Kd.agg, Kr]
theorem VR_ptr {t : Nat} {p : Option Nat} {v : Value} : VR G (.ptr t) p v ↔ ∃ u, v = .pointer u ∧ ptrR G t p u := by simp [VR, Kd.agg, Kr]
theorem VR_list {k : Kd} {xs : List k.den} {v : Value} : VR G (.list k) xs v ↔ ∃ A c, v = .slice A xs.length c ∧ xs.length ≤ c ∧ (xs = [] ∨ ∃ b off p, A = some ⟨b, off, none⟩ ∧ G.pre b = some p ∧ rowR (Kr G k) k.w xs (p.drop off)) := by
  simp [VR, Kd.agg, Kr]
theorem VR_pair {x y : Kd} {z : (Kd.pair x y).den} {v : Value} : VR G (.pair x y) z v ↔ ∃ cs : Array Value, v = .agg cs ∧ Kr G (.pair x y) z cs.toList := by
  simp [VR, Kd.agg]

theorem mkI {k : IntKind} {n : Int} : EnR G (.kv (.int k) n) (.int k n) := (VR_int (G := G)).2 rfl
theorem mkB {b : Bool} : EnR G (.kv .bool b) (.bool b) := (VR_bool (G := G)).2 rfl
theorem mkS {s : List UInt8} : EnR G (.kv .str s) (.string ⟨s.toArray⟩) := (VR_str (G := G)).2 rfl
theorem unI {k : IntKind} {n : Int} {v : Value} (h : EnR G (.kv (.int k) n) v) : v = .int k n := (VR_int (G := G)).1 h
theorem unB {b : Bool} {v : Value} (h : EnR G (.kv .bool b) v) : v = .bool b := (VR_bool (G := G)).1 h
theorem unS {s : List UInt8} {v : Value} (h : EnR G (.kv .str s) v) : v = .string ⟨s.toArray⟩ := (VR_str (G := G)).1 h
theorem unP {t : Nat} {p : Option Nat} {v : Value} (h : EnR G (.kv (.ptr t) p) v) : ∃ u, v = .pointer u ∧ ptrR G t p u := (VR_ptr (G := G)).1 h
theorem unL {k : Kd} {xs : List k.den} {v : Value} (h : EnR G (.kv (.list k) xs) v) : ∃ A c, v = .slice A xs.length c ∧ xs.length ≤ c ∧ (xs = [] ∨ ∃ b off p, A = some ⟨b, off, none⟩ ∧ G.pre b = some p ∧ rowR (Kr G k) k.w xs (p.drop off)) := (VR_list (G := G)).1 h

theorem constEn_ok (v : Value) : EnR G (constEn v) v := by
  cases v <;> simp [constEn, EnR, VR_bool, VR_int, VR_str]

theorem hasC_mem : ∀ {ctx : List (Nat × Bool)} {s : Nat} {w : Bool}, hasC ctx s w = true → (s, w) ∈ ctx
  | [], _, _, h => by simp [hasC] at h
  | (t, u) :: r, s, w, h => by
    unfold hasC at h
    cases hb : Nat.beq t s with
    | true =>
      have ht := Nat.eq_of_beq_eq_true hb
      subst ht
      simp only [hb] at h
      cases u <;> cases w <;> simp only at h <;> first
        | exact List.mem_cons_self
        | exact List.mem_cons_of_mem _ (hasC_mem h)
    | false => simp only [hb] at h; exact List.mem_cons_of_mem _ (hasC_mem h)

theorem deref_ok {ctx : List (Nat × Bool)} (hc : ∀ s w, (s, w) ∈ ctx → a.tmps.getD s Go.undef = .bool w) : ∀ {e e' : En} {v : Value}, EnA G a e v → deref ctx e = some e' → EnA G a e' v ∧ e'.plain = true
  | .cnd s w e, e', v, h, hd => by
    unfold deref at hd
    cases hb : hasC ctx s w with
    | true => rw [hb] at hd; exact deref_ok hc (h.1 (hc s w (hasC_mem hb))) hd
    | false => rw [hb] at hd; simp at hd
  | .kv k x, e', v, h, hd => by simp [deref] at hd; subst hd; exact ⟨h, rfl⟩
  | .val u, e', v, h, hd => by simp [deref] at hd; subst hd; exact ⟨h, rfl⟩
  | .tl u k xs, e', v, h, hd => by simp [deref] at hd; subst hd; exact ⟨h, rfl⟩
  | .pl k xs, e', v, h, hd => by simp [deref] at hd; subst hd; exact ⟨h, rfl⟩
  | .tup l, e', v, h, hd => by simp [deref] at hd; subst hd; exact ⟨h, rfl⟩
  | .fm t i f, e', v, h, hd => by simp [deref] at hd; subst hd; exact ⟨h, rfl⟩
  | .fldA t i o, e', v, h, hd => by simp [deref] at hd; subst hd; exact ⟨h, rfl⟩
  | .elA k x o, e', v, h, hd => by simp [deref] at hd; subst hd; exact ⟨h, rfl⟩
  | .sA u w i o, e', v, h, hd => by simp [deref] at hd; subst hd; exact ⟨h, rfl⟩
  | .clo f l, e', v, h, hd => by simp [deref] at hd; subst hd; exact ⟨h, rfl⟩
  | .undef, e', v, h, hd => by simp [deref] at hd; subst hd; exact ⟨h, rfl⟩

theorem opnd_ok {look : Nat → Option En} {ctx : List (Nat × Bool)} (hl : ∀ s e, look s = some e → EnA G a e (a.tmps.getD s Go.undef))
    (hc : ∀ s w, (s, w) ∈ ctx → a.tmps.getD s Go.undef = .bool w) {x : Operand} {e : En} (h : opnd look ctx x = some e) : EnR G e (a.eval x) := by
  cases x with
  | tmp t =>
    simp only [opnd] at h
    cases hlk : look t with
    | none => simp [hlk] at h
    | some e0 =>
      simp only [hlk] at h
      obtain ⟨h1, h2⟩ := deref_ok hc (hl t e0 hlk) h
      exact EnR_of_EnA h2 h1
  | const v => simp [opnd] at h; subst h; exact constEn_ok v
  | global g => simp [opnd] at h
  | func f => simp [opnd] at h; subst h; exact ⟨[], rfl, trivial⟩
end

section
variable {P : Program} {G : Gh} {ρ : Operand → Value} {L : Operand → Option En}

/-- In every world the computation comes to one value, which the entry tells. -/
def Comes1 (P : Program) (G : Gh) (m : Sem Value) (e : En) : Prop := ∃ v, (∀ w, m.run P w = .ok v w) ∧ EnR G e v

theorem bopI_ok {t : TypeId} {op : BinOp} {k : IntKind} {x y : Int} {e : En} (h : bopI op k x y = some e) :
    Comes1 P G (binOp op t (.int k x) (.int k y)) e := by
  cases op <;> simp only [bopI, Option.some.injEq, reduceCtorEq, Option.ite_none_left_eq_some] at h
  all_goals first
    | (subst h; exact ⟨_, fun w => by simp only [binOp, ne_eq, not_true_eq_false, if_false, Op.intArith]; rfl, mkI⟩)
    | (subst h; exact ⟨_, fun w => by simp only [binOp, ne_eq, not_true_eq_false, if_false, Op.intBits]; rfl, mkI⟩)
    | (subst h; exact ⟨_, fun w => by simp only [binOp, ne_eq, not_true_eq_false, if_false, Op.intCmp]; rfl, mkB⟩)

theorem bopS_ok {t : TypeId} {op : BinOp} {x y : List UInt8} {e : En} (h : bopS op x y = some e) :
    Comes1 P G (binOp op t (.string ⟨x.toArray⟩) (.string ⟨y.toArray⟩)) e := by
  cases op <;> simp only [bopS, Option.some.injEq, reduceCtorEq] at h
  all_goals (subst h; exact ⟨_, fun w => by simp only [binOp, Op.stringOp, Go.ByteArray.toList_mk]; rfl, mkB⟩)

theorem run_und {t : TypeId} {d : TypeDesc} (h : P.underlying t = some d) {β : Type} (k : TypeDesc → Sem β) (w : World) : (underlying t >>= k).run P w = (k d).run P w := by
  simp [underlying, h]

theorem bopB_ok {t : TypeId} {op : BinOp} {x y : Bool} {e : En} (h : bopB (P.underlying t) op x y = some e) :
    Comes1 P G (binOp op t (.bool x) (.bool y)) e := by
  unfold bopB at h
  split at h
  · rename_i hu
    cases op <;> simp only [Option.some.injEq, reduceCtorEq] at h
    all_goals (subst h; refine ⟨_, fun w => ?_, mkB⟩; simp only [binOp, Op.equal, Op.maxDepth]; rw [show (10000 : Nat) = 9999 + 1 from rfl]; unfold Op.equalIn; simp [underlying, hu])
  · simp at h

theorem bopP_ok {t t' : TypeId} {op : BinOp} {p : Option Nat} {u : Option Addr} {e : En} (hp : ptrR G t' p u) (h : bopP (P.underlying t) op p = some e) :
    Comes1 P G (binOp op t (.pointer u) (.pointer none)) e := by
  have hn : u.isNone = p.isNone := by
    cases p with
    | none => simp only [ptrR] at hp; subst hp; rfl
    | some i => obtain ⟨b, rfl, _⟩ := hp; rfl
  unfold bopP at h
  split at h
  · rename_i hu
    cases op <;> simp only [Option.some.injEq, reduceCtorEq] at h
    all_goals
      subst h
      rw [← hn]
      refine ⟨_, fun w => ?_, mkB⟩
      cases u <;> (simp only [binOp, Op.equal, Op.maxDepth]; rw [show (10000 : Nat) = 9999 + 1 from rfl]; unfold Op.equalIn; simp [underlying, hu]; try rfl)
  · simp at h

theorem bop_ok {op : BinOp} {t : TypeId} {x y e : En} {u v : Value} (hx : EnR G x u) (hy : EnR G y v) (h : bop P op t x y = some e) :
    Comes1 P G (binOp op t u v) e := by
  unfold bop at h
  split at h
  · obtain rfl := unI hx
    obtain rfl := unI hy
    split at h
    · rename_i hk; subst hk; exact bopI_ok h
    · simp at h
  · obtain rfl := unS hx
    obtain rfl := unS hy
    exact bopS_ok h
  · obtain rfl := unB hx
    obtain rfl := unB hy
    exact bopB_ok h
  · obtain ⟨u', rfl, hp⟩ := unP hx
    simp only [EnR] at hy
    subst hy
    exact bopP_ok hp h
  · simp at h

theorem eqGuard_ok {op : BinOp} {t : TypeId} {x y : Operand} {u v : Value} {ex ey e : En} (hx : EnR G ex u) (hy : EnR G ey v) (h : bop P op t ex ey = some e) (w : World) {β : Type} (m : Sem β) :
    (do eqGuard op t x y u v; m).run P w = m.run P w := by
  have hu : (∀ b : Array Value, u ≠ .agg b) ∧ u ≠ .nilIface := by
    unfold bop at h
    split at h
    · obtain rfl := unI hx; simp
    · obtain rfl := unS hx; simp
    · obtain rfl := unB hx; simp
    · obtain ⟨u', rfl, hp⟩ := unP hx; simp
    · simp at h
  have : (eqGuard op t x y u v).run P w = .ok () w := by
    unfold eqGuard
    cases op <;> simp
    all_goals (split <;> first | (simp at hu; done) | simp at hu | simp)
    all_goals simp_all
  rw [show (do eqGuard op t x y u v; m) = (eqGuard op t x y u v >>= fun _ => m) from rfl, Sem.run_bind, this]; rfl


theorem uop_ok {op : UnOp} {x e : En} {v : Value} (hx : EnR G x v) (h : uop op x = some e) : Comes1 P G (Op.unary op v) e := by
  unfold uop at h
  split at h
  · obtain rfl := unB hx; simp only [Option.some.injEq] at h; subst h; exact ⟨_, fun w => rfl, mkB⟩
  · obtain rfl := unI hx; simp only [Option.some.injEq] at h; subst h; exact ⟨_, fun w => rfl, mkI⟩
  · obtain rfl := unI hx; simp only [Option.some.injEq] at h; subst h; exact ⟨_, fun w => rfl, mkI⟩
  · simp at h

theorem cnv_ok {src dst : TypeId} {x e : En} {v : Value} (hx : EnR G x v) (h : cnv P src dst x = some e) : Comes1 P G (convert src dst v) e := by
  unfold cnv at h
  split at h
  · rename_i h1 h2
    obtain rfl := unI hx
    simp only [Option.some.injEq] at h; subst h
    refine ⟨_, fun w => ?_, mkI⟩
    unfold convert
    rw [run_und h1, run_und h2]
    rfl
  · rename_i h1 h2
    obtain rfl := unS hx
    simp only [Option.some.injEq] at h; subst h
    refine ⟨_, fun w => ?_, mkS⟩
    unfold convert
    rw [run_und h1, run_und h2]
    rfl
  · simp at h

theorem addr_add (b o n : Nat) : (⟨b, o, none⟩ : Addr).add n = ⟨b, o + n, none⟩ := by
  unfold Addr.add; split <;> simp_all

theorem run_sizeOf {t : TypeId} {n : Nat} (h : sizeT P t = some n) (w : World) : (sizeOf t).run P w = .ok n w := by
  unfold sizeT at h
  cases hi : P.info? t with
  | none => simp [hi] at h
  | some i => simp [hi] at h; simp [sizeOf, typeInfo, hi, h]

theorem run_isAgg {t : TypeId} {b : Bool} (h : aggT P t = some b) (w : World) : (isAgg t).run P w = .ok b w := by
  unfold aggT at h
  unfold isAgg
  cases hu : P.underlying t with
  | none => simp [hu] at h
  | some d =>
    rw [run_und hu]
    cases d <;> simp_all

theorem fieldAt_ok {s f o b off : Nat} (h : offT P s f = some o) (w : World) :
    (Instr.fieldAt s (.pointer (some ⟨b, off, none⟩)) f).run P w = .ok (.pointer (some ⟨b, off + o, none⟩)) w := by
  unfold offT fieldT at h
  split at h
  · rename_i fd hf
    split at hf
    · rename_i fs hu
      split at h
      · rename_i n hs
        simp only [Option.some.injEq] at h
        unfold Instr.fieldAt
        rw [run_und hu]
        simp only [hf, Instr.sureAddr, fieldPlace, Sem.run_bind, Sem.run_pure, Result.andThen_ok, run_sizeOf hs, Nat.succ_ne_zero, if_false]
        rw [addr_add, h]
      · simp at h
    · simp at hf
  · simp at h

theorem fadr_ok {s f : Nat} {x e : En} {v : Value} (hx : EnR G x v) (h : fadr P s f x = some e) : Comes1 P G (Instr.fieldAt s v f) e := by
  unfold fadr at h
  split at h
  · rename_i o ho
    split at h
    · obtain ⟨u, rfl, b, rfl, hb⟩ := unP hx
      simp only [Option.some.injEq] at h; subst h
      exact ⟨_, fun w => fieldAt_ok ho w, b, hb, by simp⟩
    · obtain ⟨b, hb, rfl⟩ := hx
      simp only [Option.some.injEq] at h; subst h
      exact ⟨_, fun w => fieldAt_ok ho w, b, hb, rfl⟩
    · obtain ⟨b, o', p, rfl, h1, h2, h3⟩ := hx
      simp only [Option.some.injEq] at h; subst h
      exact ⟨_, fun w => fieldAt_ok ho w, b, o', p, by rw [Nat.add_assoc], h1, h2, h3⟩
    · obtain ⟨b, o', n, c, hu, rfl⟩ := hx
      simp only [Option.some.injEq] at h; subst h
      exact ⟨_, fun w => fieldAt_ok ho w, b, o', n, c, hu, by rw [Nat.add_assoc]⟩
    · simp only [EnR] at hx; subst hx
      simp only [Option.some.injEq] at h; subst h
      exact ⟨_, fun w => fieldAt_ok ho w, rfl⟩
    · simp at h
  · simp at h

theorem nilC_ok {x e : En} {v : Value} (hx : EnR G x v) (h : nilC x = some e) : EnR G e v ∧ ((∃ a, v = .pointer (some a)) ∨ ∃ f b c, v = .func (.func f) b c) := by
  unfold nilC at h
  split at h
  · simp only [Option.some.injEq] at h; subst h
    refine ⟨hx, .inl ?_⟩
    obtain ⟨b, hb, rfl⟩ := hx
    exact ⟨_, rfl⟩
  · simp only [Option.some.injEq] at h; subst h
    refine ⟨hx, .inl ?_⟩
    obtain ⟨b, o', p, rfl, h1, h2, h3⟩ := hx
    exact ⟨_, rfl⟩
  · simp only [Option.some.injEq] at h; subst h
    refine ⟨hx, .inl ?_⟩
    obtain ⟨b, o', n, c, hu, rfl⟩ := hx
    exact ⟨_, rfl⟩
  · simp only [Option.some.injEq] at h; subst h
    exact ⟨hx, .inl ⟨_, hx⟩⟩
  · simp only [Option.some.injEq] at h; subst h
    exact ⟨hx, .inr ⟨_, _, _, hx⟩⟩
  · simp at h

theorem lenE_ok {ts : Array TypeId} {rt : TypeId} {t : TypeId} {x e : En} {v : Value} (ht : ts[0]? = some t) (hx : EnR G x v) (h : lenE (P.underlying t) x = some e) :
    Comes1 P G (Builtin.len_ ts rt #[v]) e := by
  unfold lenE at h
  split at h
  · rename_i hu
    obtain rfl := unS hx
    simp only [Option.some.injEq] at h; subst h
    refine ⟨_, fun w => ?_, mkI⟩
    unfold Builtin.len_
    simp only [ht, List.getElem?_toArray, List.getElem?_cons_zero]
    rw [run_und hu]
    simp only [size_mk]; rfl
  · rename_i hu
    obtain ⟨A, c, rfl, _⟩ := unL hx
    simp only [Option.some.injEq] at h; subst h
    refine ⟨_, fun w => ?_, mkI⟩
    unfold Builtin.len_
    simp only [ht, List.getElem?_toArray, List.getElem?_cons_zero]
    rw [run_und hu]
    rfl
  · rename_i hu
    obtain ⟨b, c, e', n, rfl, _⟩ := hx
    simp only [Option.some.injEq] at h; subst h
    refine ⟨_, fun w => ?_, mkI⟩
    unfold Builtin.len_
    simp only [ht, List.getElem?_toArray, List.getElem?_cons_zero]
    rw [run_und hu]
    rfl
  · rename_i hu
    obtain ⟨rfl, hx⟩ := hx
    obtain ⟨A, c, rfl, _⟩ := VR_list.1 hx
    simp only [Option.some.injEq] at h; subst h
    refine ⟨_, fun w => ?_, mkI⟩
    unfold Builtin.len_
    simp only [ht, List.getElem?_toArray, List.getElem?_cons_zero]
    rw [run_und hu]
    rfl
  · rename_i hu
    simp only [EnR] at hx; subst hx
    simp only [Option.some.injEq] at h; subst h
    refine ⟨_, fun w => ?_, mkI⟩
    unfold Builtin.len_
    simp only [ht, List.getElem?_toArray, List.getElem?_cons_zero]
    rw [run_und hu]
    rfl
  · simp at h

theorem max_ok {ts : Array TypeId} {rt : TypeId} {x y e : En} {u v : Value} (hx : EnR G x u) (hy : EnR G y v) (h : minmax .max x y = some e) :
    Comes1 P G (Builtin.max_ ts rt #[u, v]) e := by
  unfold minmax at h
  split at h
  · obtain rfl := unI hx
    obtain rfl := unI hy
    simp only [Option.some.injEq] at h; subst h
    exact ⟨_, fun w => by simp [Builtin.max_, Builtin.max2], mkI⟩
  · simp at *
  · simp at h

theorem min_ok {ts : Array TypeId} {rt : TypeId} {x y e : En} {u v : Value} (hx : EnR G x u) (hy : EnR G y v) (h : minmax .min x y = some e) :
    Comes1 P G (Builtin.min_ ts rt #[u, v]) e := by
  unfold minmax at h
  split at h
  · simp at *
  · obtain rfl := unI hx
    obtain rfl := unI hy
    simp only [Option.some.injEq] at h; subst h
    exact ⟨_, fun w => by simp [Builtin.min_, Builtin.min2], mkI⟩
  · simp at h

theorem fldK_ok : ∀ {k : Kd} {x : k.den} {f o : Nat} {r : KV} {cs : List Value}, fldK k x f = some (o, r) → Kr G k x cs →
    o + r.k.w ≤ cs.length ∧ Kr G r.k r.x ((cs.drop o).take r.k.w)
  | .pair a b, x, 0, o, r, cs, h, hk => by
    simp only [fldK, Option.some.injEq, Prod.mk.injEq] at h
    obtain ⟨rfl, rfl⟩ := h
    simp only [Kr] at hk
    obtain ⟨c1, c2, rfl, h1, h2⟩ := hk
    have hl := Kr_len h1
    refine ⟨by simp [hl], ?_⟩
    simp only [List.drop_zero]
    rw [List.take_append_of_le_length (by omega), List.take_of_length_le (by omega)]
    exact h1
  | .pair a b, x, f + 1, o, r, cs, h, hk => by
    simp only [fldK] at h
    cases hf : fldK b x.2 f with
    | none => simp [hf] at h
    | some q =>
      obtain ⟨o', r'⟩ := q
      simp only [hf, Option.some.injEq, Prod.mk.injEq] at h
      obtain ⟨rfl, rfl⟩ := h
      simp only [Kr] at hk
      obtain ⟨c1, c2, rfl, h1, h2⟩ := hk
      obtain ⟨h3, h4⟩ := fldK_ok hf h2
      have hl := Kr_len h1
      refine ⟨by simp; omega, ?_⟩
      rw [← hl, List.drop_append, List.drop_of_length_le (by omega)]
      simpa using h4
  | .unit, _, _, _, _, _, h, _ => by simp [fldK] at h
  | .int _, _, _, _, _, _, h, _ => by simp [fldK] at h
  | .bool, _, _, _, _, _, h, _ => by simp [fldK] at h
  | .str, _, _, _, _, _, h, _ => by simp [fldK] at h
  | .ptr _, _, _, _, _, _, h, _ => by simp [fldK] at h
  | .list _, _, _, _, _, _, h, _ => by simp [fldK] at h

theorem Kr_one {k : Kd} {x : k.den} {cs : List Value} (h : Kr G k x cs) (hk : k.agg = false) : ∃ v, cs = [v] ∧ VR G k x v := by
  have hl := Kr_len h
  cases k <;> simp [Kd.agg] at hk <;> simp only [Kd.w] at hl
  all_goals
    match cs, hl with
    | [v], _ => exact ⟨v, rfl, by simpa [VR, Kd.agg] using h⟩

theorem part_ok {t : TypeId} {k : Kd} {x : k.den} {cs : Array Value} {o : Nat} (h1 : sizeT P t = some k.w) (h2 : aggT P t = some k.agg) (hl : o + k.w ≤ cs.size)
    (hk : Kr G k x ((cs.toList.drop o).take k.w)) : Comes1 P G (part t cs o) (.kv k x) := by
  cases ha : k.agg with
  | true =>
    rw [ha] at h2
    refine ⟨.agg (cs.extract o (o + k.w)), fun w => by simp [part, run_isAgg h2, run_sizeOf h1], ?_⟩
    show VR G k x _
    simp only [VR, ha]
    refine ⟨_, rfl, ?_⟩
    rw [Array.toList_extract]
    simpa [List.extract_eq_take_drop] using hk
  | false =>
    rw [ha] at h2
    obtain ⟨v, hv, hr⟩ := Kr_one hk ha
    refine ⟨v, fun w => ?_, hr⟩
    have hw : k.w = 1 := by have := Kr_len hk; rw [hv] at this; simpa using this.symm
    have hg : cs[o]? = some v := by
      rw [hw] at hv
      have : (cs.toList.drop o).take 1 = [v] := hv
      rw [← Array.getElem?_toList]
      have h3 : ((cs.toList.drop o).take 1)[0]? = some v := by rw [this]; rfl
      simpa using h3
    simp [part, run_isAgg h2, hg]

theorem fieldE_ok {t f : Nat} {x e : En} {v : Value} (hx : EnR G x v) (h : fieldE P t f x = some e) : Comes1 P G (Instr.field t v f) e := by
  unfold fieldE at h
  split at h
  · rename_i a b y fd hf
    split at h
    · rename_i o k z hk
      split at h
      · rename_i hc
        obtain ⟨h1, h2, h3⟩ := hc
        simp only [Option.some.injEq] at h; subst h
        obtain ⟨cs, rfl, hr⟩ := VR_pair.1 hx
        obtain ⟨h4, h5⟩ := fldK_ok hk hr
        unfold fieldT at hf
        split at hf
        · rename_i fs hu
          obtain ⟨u, hr, he⟩ := part_ok (P := P) (cs := cs) h2 h3 (by simpa using h4) h5
          refine ⟨u, fun w => ?_, he⟩
          unfold Instr.field
          rw [run_und hu]
          simp [hf, asAgg, ← h1, hr]
        · simp at hf
      · simp at h
    · simp at h
  · simp at h

theorem run_value (m : Sem Value) {v : Value} {w : World} (h : m.run P w = .ok v w) : (do pure (Next.value (← m)) : Sem Next).run P w = .ok (.value v) w := by
  simp [h]

theorem comes_value {m : Sem Value} {e : En} (h : Comes1 P G m e) : ∃ v, (∀ w, (do pure (Next.value (← m)) : Sem Next).run P w = .ok (.value v) w) ∧ EnR G e v :=
  let ⟨v, h1, h2⟩ := h
  ⟨v, fun w => run_value m (h1 w), h2⟩

theorem pev_ok (hL : ∀ x e, L x = some e → EnR G e (ρ x)) {o : Oper} {e : En} (h : pev P L o.op = some e) :
    ∃ v, (∀ w, (execOp ρ o).run P w = .ok (.value v) w) ∧ EnR G e v := by
  unfold pev at h
  split at h
  · rename_i x hop; exact ⟨ρ x, fun w => by simp [execOp, hop], hL x e h⟩
  · rename_i x hop; exact ⟨ρ x, fun w => by simp [execOp, hop], hL x e h⟩
  · rename_i op t x y ty hop
    split at h
    · rename_i ex ey hx hy
      obtain ⟨v, h1, h2⟩ := bop_ok (hL _ _ hx) (hL _ _ hy) h
      refine ⟨v, fun w => ?_, h2⟩
      simp only [execOp, hop]
      refine run_value _ ?_
      rw [eqGuard_ok (hL _ _ hx) (hL _ _ hy) h]
      exact h1 w
    · simp at h
  · rename_i op t x hop
    split at h
    · rename_i ex hx
      simp only [execOp, hop]
      exact comes_value (uop_ok (hL _ _ hx) h)
    · simp at h
  · rename_i src dst x hop
    split at h
    · rename_i ex hx
      simp only [execOp, hop]
      exact comes_value (cnv_ok (hL _ _ hx) h)
    · simp at h
  · rename_i x i hop
    split at h
    · rename_i l hx
      split at h
      · rename_i k y hy
        simp only [Option.some.injEq] at h; subst h
        obtain ⟨vs, hv, hf⟩ := hL _ _ hx
        obtain ⟨u, hu, hr⟩ := All2.get hf hy
        simp only [execOp, hop, hv]
        refine ⟨u, fun w => run_value _ ?_, hr⟩
        have : vs[i]? = some u := by simpa using hu
        simp [Instr.extract, this]
      · simp at h
    · simp at h
  · rename_i s x f hop
    split at h
    · rename_i ex hx
      simp only [execOp, hop]
      exact comes_value (fadr_ok (hL _ _ hx) h)
    · simp at h
  · rename_i x hop
    split at h
    · rename_i ex hx
      obtain ⟨h1, h2⟩ := nilC_ok (hL _ _ hx) h
      refine ⟨ρ x, fun w => ?_, h1⟩
      rcases h2 with ⟨a, ha⟩ | ⟨f, b, c, ha⟩ <;> simp [execOp, hop, ha]
    · simp at h
  · rename_i t x f hop
    split at h
    · rename_i ex hx
      simp only [execOp, hop]
      exact comes_value (fieldE_ok (hL _ _ hx) h)
    · simp at h
  · rename_i c hop
    split at h
    · rename_i b hb
      unfold pevB at h
      split at h
      · rename_i x hargs
        split at h
        · rename_i t ts hts
          obtain ⟨x0, hx0⟩ : ∃ x0, c.args.toList = [x0] := by
            match hq : c.args.toList with
            | [x0] => exact ⟨x0, rfl⟩
            | [] => rw [hq] at hargs; simp at hargs
            | _ :: _ :: _ => rw [hq] at hargs; simp at hargs
          rw [hx0] at hargs
          simp only [List.map_cons, List.map_nil, List.cons.injEq, and_true] at hargs
          have hca : c.args = #[x0] := by rw [← Array.toArray_toList (xs := c.args), hx0]
          have ht0 : c.argTypes[0]? = some t := by rw [← Array.getElem?_toList, hts]; rfl
          obtain ⟨v, h1, h2⟩ := lenE_ok (P := P) (rt := o.type) ht0 (hL _ _ hargs) h
          refine ⟨v, fun w => ?_, h2⟩
          simp only [execOp, hop, resolve, hb, hca]
          simp [invoke, builtin, h1 w]
        · simp at h
      · rename_i x y hargs
        obtain ⟨x0, y0, hx0⟩ : ∃ x0 y0, c.args.toList = [x0, y0] := by
          match hq : c.args.toList with
          | [x0, y0] => exact ⟨x0, y0, rfl⟩
          | [] => rw [hq] at hargs; simp at hargs
          | [_] => rw [hq] at hargs; simp at hargs
          | _ :: _ :: _ :: _ => rw [hq] at hargs; simp at hargs
        rw [hx0] at hargs
        simp only [List.map_cons, List.map_nil, List.cons.injEq, and_true] at hargs
        have hca : c.args = #[x0, y0] := by rw [← Array.toArray_toList (xs := c.args), hx0]
        obtain ⟨v, h1, h2⟩ := max_ok (P := P) (ts := c.argTypes) (rt := o.type) (hL _ _ hargs.1) (hL _ _ hargs.2) h
        refine ⟨v, fun w => ?_, h2⟩
        simp only [execOp, hop, resolve, hb, hca]
        simp [invoke, builtin, h1 w]
      · rename_i x y hargs
        obtain ⟨x0, y0, hx0⟩ : ∃ x0 y0, c.args.toList = [x0, y0] := by
          match hq : c.args.toList with
          | [x0, y0] => exact ⟨x0, y0, rfl⟩
          | [] => rw [hq] at hargs; simp at hargs
          | [_] => rw [hq] at hargs; simp at hargs
          | _ :: _ :: _ :: _ => rw [hq] at hargs; simp at hargs
        rw [hx0] at hargs
        simp only [List.map_cons, List.map_nil, List.cons.injEq, and_true] at hargs
        have hca : c.args = #[x0, y0] := by rw [← Array.toArray_toList (xs := c.args), hx0]
        obtain ⟨v, h1, h2⟩ := min_ok (P := P) (ts := c.argTypes) (rt := o.type) (hL _ _ hargs.1) (hL _ _ hargs.2) h
        refine ⟨v, fun w => ?_, h2⟩
        simp only [execOp, hop, resolve, hb, hca]
        simp [invoke, builtin, h1 w]
      · simp at h
    · simp at h
  · simp at h
end
end Go.Proofs.Ytlfemhkabjafeaa.M
