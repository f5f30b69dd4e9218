/- Own library, part 4: the evaluator of all operations that only read: with advice, and what is owed for it. -/
import Derived.Test.YtlfemhkabjafeaaB3
import Derived.Laws.Cells
set_option linter.unusedVariables false
set_option linter.unusedSimpArgs false
namespace Go.Proofs.Ytlfemhkabjafeaa.M

inductive Adv where
  | pt (i : Nat)
  | ob (fs : List Fk) (x : denFs fs)
  | bx (j : Nat) (k : Kd) (x : k.den)
  | ix (k : Kd) (y : k.den)
  | mp (j r : Nat) (kk kv : Kd) (m : List (kk.den × kv.den))

def ObAt (T : Tabs) (t i : Nat) (fs : List Fk) (x : denFs fs) : Prop := ∃ xs, T t = some ⟨fs, xs⟩ ∧ xs[i]? = some x
def IxAt (k : Kd) (xs : List k.den) (n : Int) (k' : Kd) (y : k'.den) : Prop := 0 ≤ n ∧ (xs.map (KV.mk k))[n.toNat]? = some ⟨k', y⟩

theorem IxAt.mk {k : Kd} {xs : List k.den} {n : Int} {y : k.den} (h0 : 0 ≤ n) (h : xs[n.toNat]? = some y) : IxAt k xs n k y := ⟨h0, by simp [h]⟩

def subK (ag : Bool) (sz : Nat) : (k : Kd) → k.den → Nat → Option KV
  | .pair a b, x, o =>
    (match Nat.beq o 0 && (Nat.beq (a.w + b.w) sz && ag) with
    | true => some ⟨.pair a b, x⟩
    | false => (match Nat.blt o a.w with
      | true => subK ag sz a x.1 o
      | false => subK ag sz b x.2 (o - a.w)))
  | .unit, x, o => none
  | k, x, o => (match Nat.beq o 0 && (Nat.beq k.w sz && !ag) with
    | true => some ⟨k, x⟩
    | false => none)

inductive FO where
  | p (r : KV)
  | own (f : Nat) (k : Kd) (xs : List k.den)
  | mp (f : Nat)

def fldO (ag : Bool) (sz : Nat) : (fs : List Fk) → denFs fs → Nat → Nat → Option FO
  | [], _, _, _ => none
  | .p k :: r, x, o, f => (match Nat.blt o k.w with
    | true => (match subK ag sz k x.1 o with
      | some y => some (.p y)
      | none => none)
    | false => fldO ag sz r x.2 (o - k.w) (f + 1))
  | .own _ _ k :: r, x, o, f => (match Nat.beq o 0 && (Nat.beq sz 1 && !ag) with
    | true => some (.own f k x.1)
    | false => (match Nat.beq o 0 with
      | true => none
      | false => fldO ag sz r x.2 (o - 1) (f + 1)))
  | .omap _ _ :: r, x, o, f => (match Nat.beq o 0 && (Nat.beq sz 1 && !ag) with
    | true => some (.mp f)
    | false => (match Nat.beq o 0 with
      | true => none
      | false => fldO ag sz r x.2 (o - 1) (f + 1)))

structure MP where
  kk : Kd
  kv : Kd
  m : List (kk.den × kv.den)

def mapO : (fs : List Fk) → denFs fs → Nat → Option MP
  | [], _, _ => none
  | .omap kk kv :: _, x, 0 => some ⟨kk, kv, x.1⟩
  | _ :: _, _, 0 => none
  | _ :: r, x, f + 1 => mapO r x.2 f

/-- Keys that the model compares at once. -/
def keyEq : (k : Kd) → k.den → k.den → Bool
  | .int _, a, b => a == b
  | .str, a, b => a == b
  | .bool, a, b => a == b
  | _, _, _ => false

def keyOK : Kd → Option TypeDesc → Bool
  | .int _, some (.int _) => true
  | .str, some .string => true
  | .bool, some .bool => true
  | _, _ => false

def mapGet (kk kv : Kd) (key : kk.den) : List (kk.den × kv.den) → Option kv.den
  | [] => none
  | (k, v) :: r => (match keyEq kk key k with
    | true => some v
    | false => mapGet kk kv key r)

def zeroK : (k : Kd) → k.den
  | .unit => ()
  | .int _ => (0 : Int)
  | .bool => false
  | .str => []
  | .ptr _ => none
  | .list _ => []
  | .pair a b => (zeroK a, zeroK b)

def zeroC : Kd → List Value
  | .unit => []
  | .int k => [.int k 0]
  | .bool => [.bool false]
  | .str => [.string ⟨#[]⟩]
  | .ptr _ => [.pointer none]
  | .list _ => [.slice none 0 0]
  | .pair a b => zeroC a ++ zeroC b

def zeroV (k : Kd) : Value :=
  match k.agg, zeroC k with
  | true, cs => .agg cs.toArray
  | false, v :: _ => v
  | false, [] => .tuple #[]

def isZeroC : Kd → List Value → Option (List Value)
  | .unit, cs => some cs
  | .int k, cs => (match cs with
    | .int k' n :: r => if n = 0 ∧ k = k' then some r else none
    | _ => none)
  | .bool, cs => (match cs with
    | .bool b :: r => if b = false then some r else none
    | _ => none)
  | .str, cs => (match cs with
    | .string s :: r => (match s.data.toList with
      | [] => some r
      | _ => none)
    | _ => none)
  | .ptr _, cs => (match cs with
    | .pointer none :: r => some r
    | _ => none)
  | .list _, cs => (match cs with
    | .slice none 0 0 :: r => some r
    | _ => none)
  | .pair a b, cs => (match isZeroC a cs with
    | some r => isZeroC b r
    | none => none)

def isZero (k : Kd) (v : Value) : Bool :=
  match v, k.agg with
  | .agg cs, true => (match isZeroC k cs.toList with | some [] => true | _ => false)
  | .agg _, false => false
  | v, false => (match isZeroC k [v] with | some [] => true | _ => false)
  | _, true => false

def zeroOf (P : Program) (t : TypeId) : Option Value :=
  match P.info? t with
  | some i => i.zero
  | none => none

def lookE (P : Program) (ty : TypeId) (ok : Bool) (kk kv : Kd) (key : kk.den) (m : List (kk.den × kv.den)) : Option En :=
  match P.underlying ty with
  | some (.map kt et) => (match keyOK kk (P.underlying kt), zeroOf P et with
    | true, some z => (match isZero kv z with
      | true => (match ok with
        | true => some (.tup [⟨kv, (mapGet kk kv key m).getD (zeroK kv)⟩, ⟨.bool, (mapGet kk kv key m).isSome⟩])
        | false => some (.kv kv ((mapGet kk kv key m).getD (zeroK kv))))
      | false => none)
    | _, _ => none)
  | _ => none

def btS (s : List UInt8) (n : Int) : Int := ((s.getD n.toNat 0).toNat : Int)

def slB (n : Nat) (lo hi : Option Int) : Prop :=
  match lo, hi with
  | none, none => True
  | some a, none => 0 ≤ a ∧ a ≤ n
  | none, some b => 0 ≤ b ∧ b ≤ n
  | some a, some b => 0 ≤ a ∧ a ≤ b ∧ b ≤ n

def slL {α : Type} (s : List α) (lo hi : Option Int) : List α :=
  match lo, hi with
  | none, none => s
  | some a, none => s.drop a.toNat
  | none, some b => s.take b.toNat
  | some a, some b => (s.take b.toNat).drop a.toNat

def optI (M : Operand → Option En) : Option Operand → Option (Option Int)
  | none => some none
  | some x => (match M x with
    | some (.kv (.int _) n) => some (some n)
    | _ => none)

abbrev R3 := En × List Prop × List Adv

def evLoad (P : Program) (T : Tabs) (L : List LS) (ty : TypeId) (e : En) (A : List Adv) : Option R3 :=
  match sizeT P ty, aggT P ty with
  | some sz, some ag => (match e with
    | .elA k y off => (match subK ag sz k y off with
      | some ⟨k', z⟩ => some (.kv k' z, [], A)
      | none => none)
    | .fldA t i off => (match A with
      | .ob fs x :: A' => (match fldO ag sz fs x off 0 with
        | some (.p ⟨k, z⟩) => some (.kv k z, [ObAt T t i fs x], A')
        | some (.own f k xs) => some (.kv (.list k) xs, [ObAt T t i fs x, holeAt t i f L = none], A')
        | some (.mp f) => some (.fm t i f, [ObAt T t i fs x], A')
        | none => none)
      | _ => none)
    | .val (.pointer (some ⟨b, off, none⟩)) => (match A with
      | .bx j k x :: A' => (match subK ag sz k x off with
        | some ⟨k', z⟩ => some (.kv k' z, [L[j]? = some (.box b k x)], A')
        | none => none)
      | _ => none)
    | _ => none)
  | _, _ => none

def evIx (P : Program) (ty : TypeId) (x : En) (n : Int) (A : List Adv) : Option R3 :=
  match P.underlying ty with
  | some (.slice el) => (match A with
    | .ix k' y :: A' => (match x with
      | .kv (.list k) xs => (match sizeT P el with
        | some sz => (match Nat.beq sz k.w && Nat.blt 0 k.w with
          | true => some (.elA k' y 0, [IxAt k xs n k' y], A')
          | false => none)
        | none => none)
      | .tl _ k xs => (match sizeT P el with
        | some sz => (match Nat.beq sz k.w && Nat.blt 0 k.w with
          | true => some (.elA k' y 0, [IxAt k xs n k' y], A')
          | false => none)
        | none => none)
      | _ => none)
    | _ => none)
  | _ => none

def evSl (P : Program) (ty : TypeId) (x : En) (lo hi : Option Int) (A : List Adv) : Option R3 :=
  match P.underlying ty, x with
  | some .string, .kv .str s => some (.kv .str (slL s lo hi), [slB s.length lo hi], A)
  | some (.slice el), .kv (.list k) xs => (match sizeT P el with
    | some sz => (match Nat.beq sz k.w with
      | true => some (.kv (.list k) (slL xs lo hi), [slB xs.length lo hi], A)
      | false => none)
    | none => none)
  | some (.slice el), .tl _ k xs => (match sizeT P el with
    | some sz => (match Nat.beq sz k.w with
      | true => some (.kv (.list k) (slL xs lo hi), [slB xs.length lo hi], A)
      | false => none)
    | none => none)
  | _, _ => none

def evBin (P : Program) (op : BinOp) (t : TypeId) (x y : En) (A : List Adv) : Option R3 :=
  match op, x, y with
  | .quo, .kv (.int k) a, .kv (.int k') b => if k = k' then some (.kv (.int k) (k.wrap (a.tdiv b)), [b ≠ 0], A) else none
  | .rem, .kv (.int k) a, .kv (.int k') b => if k = k' then some (.kv (.int k) (a.tmod b), [b ≠ 0], A) else none
  | .shl, .kv (.int k) a, .kv (.int _) b => some (.kv (.int k) (k.wrap (a * 2 ^ (min b.toNat k.bits))), [0 ≤ b], A)
  | .shr, .kv (.int k) a, .kv (.int _) b => some (.kv (.int k) (a.fdiv (2 ^ (min b.toNat k.bits))), [0 ≤ b], A)
  | .add, .kv .str a, .kv .str b => some (.kv .str (a ++ b), [a.length + b.length ≤ 9223372036854775807], A)
  | op, x, y => (match bop P op t x y with
    | some e => some (e, [], A)
    | none => none)

def evMap (T : Tabs) (L : List LS) (e : En) (A : List Adv) : Option (MP × List Prop × List Adv) :=
  match e, A with
  | .fm t i f, .ob fs x :: A' => (match mapO fs x f with
    | some mp => some (mp, [ObAt T t i fs x], A')
    | none => none)
  | .val (.map (some r)), .mp j r' kk kv m :: A' => some (⟨kk, kv, m⟩, [r' = r ∧ L[j]? = some (.mp r' kk kv m)], A')
  | _, _ => none

/-- The count of a map's entries. -/
def evLen (P : Program) (T : Tabs) (L : List LS) (M : Operand → Option En) (op : Op) (A : List Adv) : Option R3 :=
  match op with
  | .call c => (match c.callee, c.args.toList, c.argTypes.toList with
    | .builtin .len, [x], [t] => (match P.underlying t, M x with
      | some (.map _ _), some e => (match evMap T L e A with
        | some (mp, O, A') => some (.kv (.int .i64) (mp.m.length : Int), O, A')
        | none => none)
      | _, _ => none)
    | _, _, _ => none)
  | _ => none

/-- Bytes as a text. -/
def bytesS (xs : List Int) : List UInt8 := xs.map fun n => UInt8.ofNat n.toNat

def u8L : En → Option (List Int)
  | .kv (.list (.int .u8)) xs => some xs
  | .tl _ (.int .u8) xs => some xs
  | .pl (.int .u8) xs => some xs
  | _ => none

/-- Bytes that become a text. -/
def evCnv (P : Program) (src dst : TypeId) (x : En) (A : List Adv) : Option R3 :=
  match P.underlying src, P.underlying dst with
  | some (.slice e), some .string => (match P.underlying e, u8L x with
    | some (.int .u8), some xs => some (.kv .str (bytesS xs), [], A)
    | _, _ => none)
  | _, _ => none

def ev (P : Program) (T : Tabs) (L : List LS) (M : Operand → Option En) (op : Op) (A : List Adv) : Option R3 :=
  match op with
  | .nilCheck x => (match M x with
    | some (.kv (.ptr t) p) => (match A with
      | .pt i :: A' => some (.kv (.ptr t) (some i), [p = some i], A')
      | _ => none)
    | some e => (match nilC e with
      | some e' => some (e', [], A)
      | none => none)
    | none => none)
  | .load ty x => (match M x with
    | some e => evLoad P T L ty e A
    | none => none)
  | .indexAddr ty x i => (match M x, M i with
    | some e, some (.kv (.int _) n) => evIx P ty e n A
    | _, _ => none)
  | .index ty x i => (match P.underlying ty, M x, M i with
    | some .string, some (.kv .str s), some (.kv (.int _) n) => some (.kv (.int .u8) (btS s n), [0 ≤ n ∧ n < s.length], A)
    | _, _, _ => none)
  | .slice ty x lo hi none => (match M x, optI M lo, optI M hi with
    | some e, some a, some b => evSl P ty e a b A
    | _, _, _ => none)
  | .binOp op t x y _ => (match M x, M y with
    | some a, some b => evBin P op t a b A
    | _, _ => none)
  | .lookup ty x i ok => (match M x, M i with
    | some e, some (.kv kk key) => (match evMap T L e A with
      | some (⟨kk', kv, m⟩, O, A') => if h : kk = kk' then (match lookE P ty ok kk' kv (h ▸ key) m with
        | some r => some (r, O, A')
        | none => none) else none
      | none => none)
    | _, _ => none)
  | .convert src dst x => (match M x with
    | some e => (match cnv P src dst e with
      | some r => some (r, [], A)
      | none => evCnv P src dst e A)
    | none => none)
  | op => (match pev P M op with
    | some e => some (e, [], A)
    | none => evLen P T L M op A)

/-- What a slot holds, the guards above it being known. -/
def rsvS (L : Nat → Option En) (s : Nat) : Option En :=
  match L s with
  | some e => rsv L e
  | none => none

def segOpO (P : Program) (T : Tabs) (Ls : List LS) (ops : Array Oper) (L : Nat → Option En) (o : Oper) (A : List Adv) : Option R3 :=
  match o.guard with
  | none => (match o.op with
    | .pick c x y => (match pevP P L [] (.pick c x y) with
      | some e => some (e, [], A)
      | none => none)
    | op => ev P T Ls (opnd L []) op A)
  | some (j, want) => (match (ops[j]?).bind (·.dst) with
    | some sj => (match pevP P L (chain L 6 sj want) o.op with
      | some e => some (.cnd sj want e, [], A)
      | none => (match rsvS L sj with
        | some (.kv .bool b) => (match b, want with
          | true, true => ev P T Ls (opnd L (chain L 6 sj want)) o.op A
          | false, false => ev P T Ls (opnd L (chain L 6 sj want)) o.op A
          | true, false => some (.undef, [], A)
          | false, true => some (.undef, [], A))
        | some .undef => some (.undef, [], A)
        | _ => none))
    | none => none)

def segsO (P : Program) (T : Tabs) (Ls : List LS) (ops : Array Oper) (N : Nat) (E : Env) : Nat → Nat → Env → List Adv → Option (Env × List Prop)
  | 0, _, cur, [] => some (cur, [])
  | 0, _, _, _ => none
  | n + 1, i, cur, A => (match ops[i]? with
    | some o => (match segOpO P T Ls ops (look E cur) o A with
      | some (e, O, A') => (match o.dst with
        | some d => (match Nat.blt d N && (noCnd d cur && noCnd.noCndE d e) with
          | true => (match segsO P T Ls ops N E n (i + 1) ((d, e) :: cur) A' with
            | some (c, O') => some (c, O ++ O')
            | none => none)
          | false => none)
        | none => (match segsO P T Ls ops N E n (i + 1) cur A' with
          | some (c, O') => some (c, O ++ O')
          | none => none))
      | none => none)
    | none => none)

def segDO (P : Program) (T : Tabs) (Ls : List LS) (ops : Array Oper) (N : Nat) (E : Env) (n i : Nat) (A : List Adv) (sl : List Nat) : Option (Env × List Prop) :=
  match segsO P T Ls ops N E n i [] A with
  | some (cur, O) => (match stale E sl cur with
    | true => (match pickS (look E cur) sl with
      | some D => some (D, O)
      | none => none)
    | false => none)
  | none => none

def AllP : List Prop → Prop
  | [] => True
  | p :: r => p ∧ AllP r

theorem AllP_append {A B : List Prop} : AllP (A ++ B) ↔ AllP A ∧ AllP B := by
  induction A with
  | nil => simp [AllP]
  | cons p A ih => simp [AllP, ih, and_assoc]


/-! ### Soundness -/
section
variable {P : Program} {w : World} {G : Gh} {T : Tabs} {L : List LS}

theorem subK_ok {ag : Bool} {sz : Nat} : ∀ {k : Kd} {x : k.den} {o : Nat} {r : KV} {cs : List Value}, subK ag sz k x o = some r → Kr G k x cs →
    r.k.w = sz ∧ r.k.agg = ag ∧ o + r.k.w ≤ cs.length ∧ Kr G r.k r.x ((cs.drop o).take r.k.w)
  | .pair a b, x, o, r, cs, h, hk => by
    have hlen := Kr_len hk
    unfold subK at h
    split at h
    · rename_i hb
      simp only [Bool.and_eq_true] at hb
      obtain ⟨h1, h2, h3⟩ := hb
      have ho := Nat.eq_of_beq_eq_true h1
      have hs := Nat.eq_of_beq_eq_true h2
      simp only [Option.some.injEq] at h; subst h; subst ho
      refine ⟨hs, by rw [h3]; rfl, by simp only [Kd.w] at hlen ⊢; omega, ?_⟩
      simp only [List.drop_zero]
      rw [List.take_of_length_le (by omega)]; exact hk
    · simp only [Kr] at hk
      obtain ⟨c1, c2, rfl, h1, h2⟩ := hk
      have hl := Kr_len h1
      split at h
      · rename_i hlt
        have hlt' : o < a.w := Nat.le_of_ble_eq_true hlt
        obtain ⟨k1, k2, k3, k4⟩ := subK_ok h h1
        refine ⟨k1, k2, by simp; omega, ?_⟩
        rw [List.drop_append_of_le_length (by omega), List.take_append_of_le_length (by simp; omega)]
        exact k4
      · rename_i hlt
        have hge : a.w ≤ o := by
          rcases Nat.lt_or_ge o a.w with h' | h'
          · have : Nat.blt o a.w = true := Nat.ble_eq_true_of_le h'
            rw [hlt] at this; simp at this
          · exact h'
        obtain ⟨k1, k2, k3, k4⟩ := subK_ok h h2
        refine ⟨k1, k2, by simp; omega, ?_⟩
        rw [List.drop_append, List.drop_of_length_le (by omega), List.nil_append, hl]
        exact k4
  | .unit, x, o, r, cs, h, hk => by simp [subK] at h
  | .int k, x, o, r, cs, h, hk => subK_one rfl rfl h hk
  | .bool, x, o, r, cs, h, hk => subK_one rfl rfl h hk
  | .str, x, o, r, cs, h, hk => subK_one rfl rfl h hk
  | .ptr t, x, o, r, cs, h, hk => subK_one rfl rfl h hk
  | .list k, x, o, r, cs, h, hk => subK_one rfl rfl h hk
  where
  subK_one {ag : Bool} {sz : Nat} {k : Kd} {x : k.den} {o : Nat} {r : KV} {cs : List Value} (hag : k.agg = false) (hd : subK ag sz k x o = (match Nat.beq o 0 && (Nat.beq k.w sz && !ag) with | true => some ⟨k, x⟩ | false => none))
      (h : subK ag sz k x o = some r) (hk : Kr G k x cs) : r.k.w = sz ∧ r.k.agg = ag ∧ o + r.k.w ≤ cs.length ∧ Kr G r.k r.x ((cs.drop o).take r.k.w) := by
    have hlen := Kr_len hk
    rw [hd] at h
    split at h
    · rename_i hb
      simp only [Bool.and_eq_true, Bool.not_eq_true'] at hb
      obtain ⟨h1, h2, h3⟩ := hb
      have ho := Nat.eq_of_beq_eq_true h1
      have hs := Nat.eq_of_beq_eq_true h2
      simp only [Option.some.injEq] at h; subst h; subst ho
      refine ⟨hs, by rw [h3]; exact hag, by simp only at *; omega, ?_⟩
      simp only [List.drop_zero]
      rw [List.take_of_length_le (by omega)]; exact hk
    · simp at h

theorem cell_at {b o : Nat} {ce : Array Value} {ty : TypeId} {fr : Nat × Nat} (h : w.heap[b]? = some (.cells ce ty fr)) : w.cell? ⟨b, o, none⟩ = ce[o]? := by
  simp [World.cell?, h]

theorem run_loadAt {ty : TypeId} {b off : Nat} {ce : Array Value} {tb : TypeId} {fr : Nat × Nat} {k : Kd} {x : k.den} (h1 : sizeT P ty = some k.w) (h2 : aggT P ty = some k.agg)
    (hh : w.heap[b]? = some (.cells ce tb fr)) (hl : off + k.w ≤ ce.size) (hr : Kr G k x ((ce.toList.drop off).take k.w)) :
    ∃ v, (Instr.loadAt ty (.pointer (some ⟨b, off, none⟩))).run P w = .ok v w ∧ VR G k x v := by
  cases ha : k.agg with
  | true =>
    rw [ha] at h2
    have hcs : ((ce.toList.drop off).take k.w).length = k.w := Kr_len hr
    have := run_loadCells_list (P := P) w ⟨b, off, none⟩ ((ce.toList.drop off).take k.w) (fun j v hj => by
      rw [addr_add, cell_at hh]
      rw [List.getElem?_take] at hj
      split at hj
      · simpa using hj
      · simp at hj)
    rw [hcs] at this
    refine ⟨.agg ((ce.toList.drop off).take k.w).toArray, ?_, ?_⟩
    · simp [Instr.loadAt, Instr.sureAddr, loadVar, run_isAgg h2, run_sizeOf h1, this]
    · simp only [VR, ha]
      exact ⟨_, rfl, by simpa using hr⟩
  | false =>
    rw [ha] at h2
    obtain ⟨v, hv, hr'⟩ := Kr_one hr ha
    refine ⟨v, ?_, hr'⟩
    have hw : k.w = 1 := by have := Kr_len hr; rw [hv] at this; simpa using this.symm
    have hg : ce[off]? = some v := by
      rw [hw] at hv
      have h3 : ((ce.toList.drop off).take 1)[0]? = some v := by rw [hv]; rfl
      simpa using h3
    have hc : w.cell? ⟨b, off, none⟩ = some v := by rw [cell_at hh]; exact hg
    simp [Instr.loadAt, Instr.sureAddr, loadVar, run_isAgg h2, hc]

/-- A published row lies in the heap. -/
theorem Holds.pre_cells (h : Holds w G T L) {b : Nat} {p : List Value} (hp : G.pre b = some p) : ∃ ce ty fr rest, w.heap[b]? = some (.cells ce ty fr) ∧ ce.toList = p ++ rest := by
  have hb := h.block b
  unfold BlockOK at hb
  unfold Gh.pre at hp
  cases hr : G.role b with
  | pub o =>
    rw [hr] at hb hp
    cases o <;> simp at hp
    subst hp
    exact ⟨_, _, _, [], hb, by simp⟩
  | grow o q =>
    rw [hr] at hb hp
    simp at hp; subst hp
    obtain ⟨ce, ty, h1, rest, h2⟩ := hb
    exact ⟨ce, ty, (0, 0), rest, h1, h2⟩
  | free => rw [hr] at hp; simp at hp
  | obj t i => rw [hr] at hp; simp at hp
  | fld t i f => rw [hr] at hp; simp at hp
  | loc => rw [hr] at hp; simp at hp

theorem drop_take_app {α : Type} {p rest : List α} {o n : Nat} (h : n ≤ (p.drop o).length) : ((p ++ rest).drop o).take n = (p.drop o).take n := by
  rw [List.drop_append, List.take_append_of_le_length h]

theorem load_elA (h : Holds w G T L) {ty : TypeId} {k : Kd} {x : k.den} {off : Nat} {v : Value} {sz : Nat} {ag : Bool} {r : KV} (hv : EnR G (.elA k x off) v)
    (h1 : sizeT P ty = some sz) (h2 : aggT P ty = some ag) (hs : subK ag sz k x off = some r) : ∃ u, (Instr.loadAt ty v).run P w = .ok u w ∧ EnR G (.kv r.k r.x) u := by
  obtain ⟨b, o, p, rfl, hp, hl, hk⟩ := hv
  obtain ⟨ce, tb, fr, rest, hh, he⟩ := h.pre_cells hp
  obtain ⟨k1, k2, k3, k4⟩ := subK_ok hs hk
  have hl' : ((p.drop o).take k.w).length = k.w := Kr_len hk
  have hsz : ce.size = p.length + rest.length := by rw [← Array.length_toList, he]; simp
  refine run_loadAt (by rw [h1, k1]) (by rw [h2, k2]) hh (by omega) ?_
  rw [he, ← List.drop_drop, List.drop_append_of_le_length (by omega)]
  rw [List.drop_append_of_le_length (by rw [List.length_drop]; omega), List.take_append_of_le_length (by rw [List.length_drop, List.length_drop]; omega)]
  rw [List.drop_take] at k4
  rw [List.take_take] at k4
  rwa [Nat.min_eq_left (by omega)] at k4

theorem aggFalse_w {k : Kd} (h : k.agg = false) : k.w = 1 := by cases k <;> simp [Kd.agg] at h <;> rfl

theorem holeAt_none_own {t i f : Nat} {e bt : Nat} {k : Kd} {xs : List k.den} {cs : List Value} {hl : Option Value} (hn : hl = none) (h : FkR w G hl t i f (.own e bt k) xs cs) :
    ∃ v, cs = [v] ∧ ownV G w (.fld t i f) e bt k xs v := by subst hn; exact h

theorem ownV_list {o : Own} {e bt : Nat} {k : Kd} {xs : List k.den} {v : Value} (h : ownV G w o e bt k xs v) : VR G (.list k) xs v := by
  obtain ⟨cs, h1, h2, h3, h4⟩ := h
  refine VR_list.2 ?_
  rcases h1.2 with ⟨rfl, hn⟩ | ⟨g, cap, cur, rfl, _, hg, hnc, _⟩
  · exact ⟨none, 0, by rw [hn], by omega, .inl (List.eq_nil_of_length_eq_zero hn)⟩
  · have hr := h4 g rfl
    refine ⟨_, cap, rfl, hnc, .inr ⟨g, 0, cs, rfl, ?_, by simpa using h2⟩⟩
    unfold Gh.pre; rw [hr]

/-- What a field of an object comes to. -/
def FOR (w : World) (G : Gh) (L : List LS) (t i : Nat) : FO → List Value → Prop
  | .p r, cs => Kr G r.k r.x cs
  | .own f k xs, cs => holeAt t i f L = none → Kr G (.list k) xs cs
  | .mp f, cs => ∃ r, cs = [.map (some r)] ∧ G.role r = .fld t i f

def FO.wd : FO → Nat
  | .p r => r.k.w
  | _ => 1
def FO.agg : FO → Bool
  | .p r => r.k.agg
  | _ => false

theorem FkR_len {hl : Option Value} {t i f : Nat} {fk : Fk} {x : fk.den} {cs : List Value} (h : FkR w G hl t i f fk x cs) : cs.length = fk.w := by
  cases fk with
  | p k => exact Kr_len h
  | own e bt k =>
    cases hl with
    | some v => have h : cs = [v] := h; subst h; rfl
    | none => obtain ⟨v, rfl, _⟩ := h; rfl
  | omap kk kv => obtain ⟨r, es, cl, rfl, _⟩ := h; rfl

theorem fldO_ok {ag : Bool} {sz t i : Nat} : ∀ {fs : List Fk} {x : denFs fs} {o f : Nat} {r : FO} {cs : List Value}, fldO ag sz fs x o f = some r → ObjR w G L t i f fs x cs →
    r.wd = sz ∧ r.agg = ag ∧ o + r.wd ≤ cs.length ∧ FOR w G L t i r ((cs.drop o).take r.wd)
  | [], _, _, _, _, _, h, _ => by simp [fldO] at h
  | .p k :: fs, x, o, f, r, cs, h, ho => by
    obtain ⟨c1, c2, rfl, h1, h2⟩ := ho
    have hl := Kr_len h1
    unfold fldO at h
    split at h
    · rename_i hlt
      have hlt' : o < k.w := Nat.le_of_ble_eq_true hlt
      split at h
      · rename_i y hy
        simp only [Option.some.injEq] at h; subst h
        obtain ⟨k1, k2, k3, k4⟩ := subK_ok hy h1
        refine ⟨k1, k2, by simp only [FO.wd, List.length_append]; omega, ?_⟩
        simp only [FO.wd, FOR]
        rw [List.drop_append_of_le_length (by omega), List.take_append_of_le_length (by simp; omega)]
        exact k4
      · simp at h
    · rename_i hlt
      have hge : k.w ≤ o := by
        rcases Nat.lt_or_ge o k.w with h' | h'
        · have : Nat.blt o k.w = true := Nat.ble_eq_true_of_le h'
          rw [hlt] at this; simp at this
        · exact h'
      obtain ⟨k1, k2, k3, k4⟩ := fldO_ok h h2
      refine ⟨k1, k2, by simp; omega, ?_⟩
      rw [List.drop_append, List.drop_of_length_le (by omega), List.nil_append, hl]
      exact k4
  | .own e bt k :: fs, x, o, f, r, cs, h, ho => by
    obtain ⟨c1, c2, rfl, h1, h2⟩ := ho
    have hl : c1.length = 1 := FkR_len h1
    unfold fldO at h
    split at h
    · rename_i hb
      simp only [Bool.and_eq_true, Bool.not_eq_true'] at hb
      obtain ⟨b1, b2, b3⟩ := hb
      have ho := Nat.eq_of_beq_eq_true b1
      have hs := Nat.eq_of_beq_eq_true b2
      simp only [Option.some.injEq] at h; subst h; subst ho
      refine ⟨hs.symm, by rw [b3]; rfl, by simp [FO.wd]; omega, ?_⟩
      simp only [FO.wd, FOR, List.drop_zero]
      rw [List.take_append_of_le_length (by omega), List.take_of_length_le (by omega)]
      intro hn
      obtain ⟨v, rfl, hv⟩ := holeAt_none_own hn h1
      have := ownV_list hv
      simpa [VR, Kd.agg] using this
    · split at h
      · simp at h
      · rename_i hb
        have ho := Nat.ne_of_beq_eq_false hb
        obtain ⟨k1, k2, k3, k4⟩ := fldO_ok h h2
        refine ⟨k1, k2, by simp; omega, ?_⟩
        rw [List.drop_append, List.drop_of_length_le (by omega), List.nil_append, hl]
        exact k4
  | .omap kk kv :: fs, x, o, f, r, cs, h, ho => by
    obtain ⟨c1, c2, rfl, h1, h2⟩ := ho
    have hl : c1.length = 1 := FkR_len h1
    unfold fldO at h
    split at h
    · rename_i hb
      simp only [Bool.and_eq_true, Bool.not_eq_true'] at hb
      obtain ⟨b1, b2, b3⟩ := hb
      have ho := Nat.eq_of_beq_eq_true b1
      have hs := Nat.eq_of_beq_eq_true b2
      simp only [Option.some.injEq] at h; subst h; subst ho
      refine ⟨hs.symm, by rw [b3]; rfl, by simp [FO.wd]; omega, ?_⟩
      simp only [FO.wd, FOR, List.drop_zero]
      rw [List.take_append_of_le_length (by omega), List.take_of_length_le (by omega)]
      obtain ⟨r, es, cl, rfl, hr, _⟩ := h1
      exact ⟨r, rfl, hr⟩
    · split at h
      · simp at h
      · rename_i hb
        have ho := Nat.ne_of_beq_eq_false hb
        obtain ⟨k1, k2, k3, k4⟩ := fldO_ok h h2
        refine ⟨k1, k2, by simp; omega, ?_⟩
        rw [List.drop_append, List.drop_of_length_le (by omega), List.nil_append, hl]
        exact k4

/-- The object that a pointer leads to. -/
theorem Holds.at (h : Holds w G T L) {b t i : Nat} {fs : List Fk} {x : denFs fs} (hr : G.role b = .obj t i) (ho : ObAt T t i fs x) :
    ∃ ce ty, w.heap[b]? = some (.cells ce ty (0, 0)) ∧ ObjR w G L t i 0 fs x ce.toList := by
  have hb := h.block b
  unfold BlockOK at hb
  rw [hr] at hb
  obtain ⟨tab, x', ce, ty, h1, h2, h3, h4⟩ := hb
  obtain ⟨xs, h5, h6⟩ := ho
  rw [h1] at h5
  simp only [Option.some.injEq] at h5; subst h5
  simp only at h2
  rw [h2] at h6
  simp only [Option.some.injEq] at h6; subst h6
  exact ⟨ce, ty, h3, h4⟩

theorem load_fldA (h : Holds w G T L) {ty t i off : Nat} {v : Value} {sz : Nat} {ag : Bool} {fs : List Fk} {x : denFs fs} {r : FO} (hv : EnR G (.fldA t i off) v)
    (h1 : sizeT P ty = some sz) (h2 : aggT P ty = some ag) (hs : fldO ag sz fs x off 0 = some r) (ho : ObAt T t i fs x) :
    (∀ k z, r = .p ⟨k, z⟩ → ∃ u, (Instr.loadAt ty v).run P w = .ok u w ∧ EnR G (.kv k z) u) ∧
    (∀ f k xs, r = .own f k xs → holeAt t i f L = none → ∃ u, (Instr.loadAt ty v).run P w = .ok u w ∧ EnR G (.kv (.list k) xs) u) ∧
    (∀ f, r = .mp f → ∃ u, (Instr.loadAt ty v).run P w = .ok u w ∧ EnR G (.fm t i f) u) := by
  obtain ⟨b, hb, rfl⟩ := hv
  obtain ⟨ce, tb, hh, hob⟩ := h.at hb ho
  obtain ⟨k1, k2, k3, k4⟩ := fldO_ok hs hob
  rw [Array.length_toList] at k3
  refine ⟨?_, ?_, ?_⟩
  · intro k z hr; subst hr
    exact run_loadAt (by rw [h1, ← k1]; rfl) (by rw [h2, ← k2]; rfl) hh k3 k4
  · intro f k xs hr hn; subst hr
    exact run_loadAt (k := .list k) (x := xs) (by rw [h1, ← k1]; rfl) (by rw [h2, ← k2]; rfl) hh k3 (k4 hn)
  · intro f hr; subst hr
    obtain ⟨r, hc, hr⟩ := k4
    have hg : ce[off]? = some (.map (some r)) := by
      have h3 : ((ce.toList.drop off).take 1)[0]? = some (.map (some r)) := by rw [show FO.wd (.mp f) = 1 from rfl] at hc; rw [hc]; rfl
      simpa using h3
    have hc : w.cell? ⟨b, off, none⟩ = some (.map (some r)) := by rw [cell_at hh]; exact hg
    have h2' : aggT P ty = some false := by rw [h2, ← k2]; rfl
    exact ⟨_, by simp [Instr.loadAt, Instr.sureAddr, loadVar, run_isAgg h2', hc], r, rfl, hr⟩

theorem evLoad_ok (h : Holds w G T L) {ty : TypeId} {e : En} {A : List Adv} {e' : En} {O : List Prop} {A' : List Adv} {v : Value} (hv : EnR G e v)
    (he : evLoad P T L ty e A = some (e', O, A')) (hO : AllP O) : ∃ u, (Instr.loadAt ty v).run P w = .ok u w ∧ EnR G e' u := by
  unfold evLoad at he
  split at he
  · rename_i sz ag h1 h2
    split at he
    · split at he
      · rename_i k' z hs
        simp only [Option.some.injEq, Prod.mk.injEq] at he
        obtain ⟨rfl, rfl, rfl⟩ := he
        exact load_elA h hv h1 h2 hs
      · simp at he
    · split at he
      · rename_i t i off fs x A''
        split at he
        · rename_i k z hs
          simp only [Option.some.injEq, Prod.mk.injEq] at he
          obtain ⟨rfl, rfl, rfl⟩ := he
          exact (load_fldA h hv h1 h2 hs hO.1).1 _ _ rfl
        · rename_i f k xs hs
          simp only [Option.some.injEq, Prod.mk.injEq] at he
          obtain ⟨rfl, rfl, rfl⟩ := he
          exact (load_fldA h hv h1 h2 hs hO.1).2.1 _ _ _ rfl hO.2.1
        · rename_i f hs
          simp only [Option.some.injEq, Prod.mk.injEq] at he
          obtain ⟨rfl, rfl, rfl⟩ := he
          exact (load_fldA h hv h1 h2 hs hO.1).2.2 _ rfl
        · simp at he
      · simp at he
    · rename_i b off
      split at he
      · rename_i j k x A''
        split at he
        · rename_i k' z hs
          simp only [Option.some.injEq, Prod.mk.injEq] at he
          obtain ⟨rfl, rfl, rfl⟩ := he
          simp only [EnR] at hv; subst hv
          have hl := h.loc _ (List.mem_of_getElem? hO.1)
          obtain ⟨hr, ce, tb, hh, hk⟩ := hl
          obtain ⟨k1, k2, k3, k4⟩ := subK_ok hs hk
          rw [Array.length_toList] at k3
          exact run_loadAt (by rw [h1, k1]) (by rw [h2, k2]) hh k3 k4
        · simp at he
      · simp at he
    · simp at he
  · simp at he
end
end Go.Proofs.Ytlfemhkabjafeaa.M
