/- Own library, part 0: ghost roles of memory blocks, kinds of plain data, how they lie in memory, and what is known of a frame's slots. -/
import Derived.Calls
import Derived.Orders
import Derived.KernelRfl
import Derived.Laws.Strings
import Derived.Laws.World
import Derived.Tactics
set_option linter.unusedVariables false
set_option linter.unusedSimpArgs false
namespace Go.Proofs.Ytlfemhkabjafeaa.M

/-! ### Roles of blocks -/
inductive Own where
  | dead
  | loc
  | fld (t i f : Nat)

inductive Role where
  | free
  | pub (o : Obj)
  | grow (o : Own) (pre : List Value)
  | obj (t i : Nat)
  | fld (t i f : Nat)
  | loc

structure Gh where
  role : Nat → Role
  base : World

def Gh.pre (G : Gh) (b : Nat) : Option (List Value) :=
  match G.role b with
  | .pub (.cells c _ _) => some c.toList
  | .grow _ p => some p
  | _ => none

def Role.le : Role → Role → Prop
  | .pub o, r => r = .pub o
  | .obj t i, r => r = .obj t i
  | .fld t i f, r => r = .fld t i f
  | .grow _ p, r => ∃ o q, r = .grow o (p ++ q)
  | _, _ => True

def Gh.le (G G' : Gh) : Prop := G'.base = G.base ∧ ∀ b, (G.role b).le (G'.role b)

theorem Role.le_refl (r : Role) : r.le r := by
  cases r with
  | grow o p => exact ⟨o, [], by simp⟩
  | _ => simp [Role.le]

theorem Role.le_trans {a b c : Role} (h : a.le b) (k : b.le c) : a.le c := by
  cases a <;> simp only [Role.le] at h ⊢
  · subst h; exact k
  · obtain ⟨o, q, rfl⟩ := h
    obtain ⟨o', q', rfl⟩ := k
    exact ⟨o', q ++ q', by rw [List.append_assoc]⟩
  · subst h; exact k
  · subst h; exact k

theorem Gh.le_refl (G : Gh) : G.le G := ⟨rfl, fun _ => Role.le_refl _⟩
theorem Gh.le_trans {A B C : Gh} (h : A.le B) (k : B.le C) : A.le C :=
  ⟨k.1.trans h.1, fun b => Role.le_trans (h.2 b) (k.2 b)⟩

theorem Gh.pre_mono {G G' : Gh} (h : G.le G') {b : Nat} {p : List Value} (hp : G.pre b = some p) : ∃ q, G'.pre b = some (p ++ q) := by
  have hb := h.2 b
  unfold Gh.pre at hp ⊢
  cases hr : G.role b with
  | pub o =>
    rw [hr] at hp hb
    simp only [Role.le] at hb
    rw [hb]
    exact ⟨[], by simpa using hp⟩
  | grow o q =>
    rw [hr] at hp hb
    simp only [Option.some.injEq] at hp
    subst hp
    simp only [Role.le] at hb
    obtain ⟨o', q', hq⟩ := hb
    rw [hq]
    exact ⟨q', rfl⟩
  | free => rw [hr] at hp; simp at hp
  | obj t i => rw [hr] at hp; simp at hp
  | fld t i f => rw [hr] at hp; simp at hp
  | loc => rw [hr] at hp; simp at hp

theorem Gh.fld_mono {G G' : Gh} (h : G.le G') {b t i f : Nat} (hr : G.role b = .fld t i f) : G'.role b = .fld t i f := by
  have := h.2 b
  rw [hr] at this
  exact this

theorem Gh.obj_mono {G G' : Gh} (h : G.le G') {b t i : Nat} (hr : G.role b = .obj t i) : G'.role b = .obj t i := by
  have := h.2 b
  rw [hr] at this
  exact this

def All2 {α β : Type} (R : α → β → Prop) : List α → List β → Prop
  | [], [] => True
  | x :: xs, y :: ys => R x y ∧ All2 R xs ys
  | _, _ => False

theorem All2.imp {α β : Type} {R R' : α → β → Prop} (h : ∀ x y, R x y → R' x y) : ∀ {xs : List α} {ys : List β}, All2 R xs ys → All2 R' xs ys
  | [], [], _ => trivial
  | _ :: _, _ :: _, ⟨h1, h2⟩ => ⟨h _ _ h1, All2.imp h h2⟩
  | [], _ :: _, h1 => h1.elim
  | _ :: _, [], h1 => h1.elim

theorem All2.length {α β : Type} {R : α → β → Prop} : ∀ {xs : List α} {ys : List β}, All2 R xs ys → xs.length = ys.length
  | [], [], _ => rfl
  | _ :: _, _ :: _, ⟨_, h2⟩ => by simp [All2.length h2]
  | [], _ :: _, h1 => h1.elim
  | _ :: _, [], h1 => h1.elim

theorem All2.get {α β : Type} {R : α → β → Prop} : ∀ {xs : List α} {ys : List β} {i : Nat} {x : α}, All2 R xs ys → xs[i]? = some x → ∃ y, ys[i]? = some y ∧ R x y
  | x :: _, y :: _, 0, z, ⟨h1, _⟩, h => by simp at h; subst h; exact ⟨y, by simp, h1⟩
  | _ :: xs, _ :: ys, i + 1, z, ⟨_, h2⟩, h => by
    obtain ⟨y, hy, hr⟩ := All2.get h2 (i := i) (x := z) (by simpa using h)
    exact ⟨y, by simpa using hy, hr⟩
  | [], [], i, z, _, h => by simp at h
  | [], _ :: _, _, _, h1, _ => h1.elim
  | _ :: _, [], _, _, h1, _ => h1.elim

/-! ### Kinds -/
inductive Kd where
  | unit
  | int (k : IntKind)
  | bool
  | str
  | ptr (t : Nat)
  | list (k : Kd)
  | pair (a b : Kd)
  deriving DecidableEq

@[reducible] def Kd.den : Kd → Type
  | .unit => Unit
  | .int _ => Int
  | .bool => Bool
  | .str => List UInt8
  | .ptr _ => Option Nat
  | .list k => List k.den
  | .pair a b => a.den × b.den

def Kd.w : Kd → Nat
  | .unit => 0
  | .pair a b => a.w + b.w
  | _ => 1

def Kd.agg : Kd → Bool
  | .unit => true
  | .pair _ _ => true
  | _ => false

def rowR {α : Type} (R : α → List Value → Prop) (w : Nat) : List α → List Value → Prop
  | [], _ => True
  | x :: xs, cs => w ≤ cs.length ∧ R x (cs.take w) ∧ rowR R w xs (cs.drop w)

theorem rowR_append {α : Type} {R : α → List Value → Prop} {w : Nat} : ∀ {xs : List α} {cs ds : List Value}, rowR R w xs cs → rowR R w xs (cs ++ ds)
  | [], _, _, _ => trivial
  | x :: xs, cs, ds, ⟨h1, h2, h3⟩ => by
    refine ⟨by simp; omega, ?_, ?_⟩
    · rw [List.take_append_of_le_length h1]; exact h2
    · rw [List.drop_append_of_le_length h1]; exact rowR_append h3

theorem rowR_mono {α : Type} {R R' : α → List Value → Prop} {w : Nat} (hR : ∀ x cs, R x cs → R' x cs) : ∀ {xs : List α} {cs : List Value}, rowR R w xs cs → rowR R' w xs cs
  | [], _, _ => trivial
  | x :: xs, cs, ⟨h1, h2, h3⟩ => ⟨h1, hR _ _ h2, rowR_mono hR h3⟩

theorem rowR_get {α : Type} {R : α → List Value → Prop} {w : Nat} : ∀ {xs : List α} {cs : List Value} {i : Nat} {x : α}, rowR R w xs cs → xs[i]? = some x →
    w ≤ (cs.drop (i * w)).length ∧ R x ((cs.drop (i * w)).take w)
  | [], _, i, x, _, h => by simp at h
  | y :: ys, cs, 0, x, ⟨h1, h2, h3⟩, h => by
    simp at h; subst h; simpa using ⟨h1, h2⟩
  | y :: ys, cs, i + 1, x, ⟨h1, h2, h3⟩, h => by
    have := rowR_get h3 (i := i) (x := x) (by simpa using h)
    rw [List.drop_drop] at this
    rwa [Nat.succ_mul, Nat.add_comm (i * w) w]

theorem rowR_drop {α : Type} {R : α → List Value → Prop} {w : Nat} : ∀ {xs : List α} {cs : List Value} (i : Nat), rowR R w xs cs → rowR R w (xs.drop i) (cs.drop (i * w))
  | xs, cs, 0, h => by simpa using h
  | [], cs, i + 1, h => by simp [rowR]
  | x :: xs, cs, i + 1, ⟨_, _, h⟩ => by
    have := rowR_drop i h
    rw [List.drop_drop] at this
    rwa [Nat.succ_mul, Nat.add_comm (i * w) w]

theorem rowR_take {α : Type} {R : α → List Value → Prop} {w : Nat} : ∀ {xs : List α} {cs : List Value} (i : Nat), rowR R w xs cs → rowR R w (xs.take i) cs
  | xs, cs, 0, h => by simp [rowR]
  | [], cs, i + 1, h => by simp [rowR]
  | x :: xs, cs, i + 1, ⟨h1, h2, h⟩ => ⟨h1, h2, rowR_take i h⟩

theorem rowR_len {α : Type} {R : α → List Value → Prop} {w : Nat} : ∀ {xs : List α} {cs : List Value}, rowR R w xs cs → xs.length * w ≤ cs.length
  | [], _, _ => by simp
  | x :: xs, cs, ⟨h1, h2, h⟩ => by
    have := rowR_len h
    simp at this
    simp [Nat.succ_mul]; omega

theorem rowR_snoc {α : Type} {R : α → List Value → Prop} {w : Nat} : ∀ {xs : List α} {cs ds : List Value} {x : α}, rowR R w xs cs → cs.length = xs.length * w → ds.length = w → R x ds → rowR R w (xs ++ [x]) (cs ++ ds)
  | [], cs, ds, x, _, hl, hd, hx => by
    simp at hl; subst hl
    refine ⟨by simp [hd], ?_, trivial⟩
    simp only [List.nil_append]
    rwa [List.take_of_length_le (by omega)]
  | y :: ys, cs, ds, x, ⟨h1, h2, h3⟩, hl, hd, hx => by
    refine ⟨by simp; omega, ?_, ?_⟩
    · rw [List.take_append_of_le_length h1]; exact h2
    · rw [List.drop_append_of_le_length h1]
      refine rowR_snoc h3 ?_ hd hx
      simp [Nat.succ_mul] at hl ⊢; omega

theorem rowR_app {α : Type} {R : α → List Value → Prop} {w : Nat} : ∀ {xs ys : List α} {cs ds : List Value}, rowR R w xs cs → cs.length = xs.length * w → rowR R w ys ds → rowR R w (xs ++ ys) (cs ++ ds)
  | [], ys, cs, ds, _, hl, hy => by
    simp at hl; subst hl; simpa using hy
  | y :: zs, ys, cs, ds, ⟨h1, h2, h3⟩, hl, hy => by
    refine ⟨by simp; omega, ?_, ?_⟩
    · rw [List.take_append_of_le_length h1]; exact h2
    · rw [List.drop_append_of_le_length h1]
      refine rowR_app h3 ?_ hy
      simp [Nat.succ_mul] at hl ⊢; omega

theorem rowR_cut {α : Type} {R : α → List Value → Prop} {w : Nat} : ∀ {xs : List α} {cs : List Value}, rowR R w xs cs → rowR R w xs (cs.take (xs.length * w))
  | [], _, _ => by simp [rowR]
  | x :: xs, cs, ⟨h1, h2, h3⟩ => by
    have := rowR_cut h3
    refine ⟨by simp [Nat.succ_mul]; omega, ?_, ?_⟩
    · rw [List.take_take]; rwa [Nat.min_eq_left (by simp [Nat.succ_mul])]
    · simp only [List.length_cons, Nat.succ_mul]
      rw [List.drop_take, show xs.length * w + w - w = xs.length * w by omega]
      exact this

def ptrR (G : Gh) (t : Nat) : Option Nat → Option Addr → Prop
  | none, v => v = none
  | some i, v => ∃ b, v = some ⟨b, 0, none⟩ ∧ G.role b = .obj t i

def Kr (G : Gh) : (k : Kd) → k.den → List Value → Prop
  | .unit, _, cs => cs = []
  | .int k, n, cs => cs = [.int k n]
  | .bool, b, cs => cs = [.bool b]
  | .str, s, cs => cs = [.string ⟨s.toArray⟩]
  | .ptr t, p, cs => ∃ v, cs = [.pointer v] ∧ ptrR G t p v
  | .list k, xs, cs => ∃ A c, cs = [.slice A xs.length c] ∧ xs.length ≤ c ∧ (xs = [] ∨ ∃ b off p, A = some ⟨b, off, none⟩ ∧ G.pre b = some p ∧ rowR (Kr G k) k.w xs (p.drop off))
  | .pair a b, x, cs => ∃ c1 c2, cs = c1 ++ c2 ∧ Kr G a x.1 c1 ∧ Kr G b x.2 c2

theorem Kr_len {G : Gh} : ∀ {k : Kd} {x : k.den} {cs : List Value}, Kr G k x cs → cs.length = k.w
  | .unit, _, _, h => by simp only [Kr] at h; subst h; rfl
  | .int _, _, _, h => by simp only [Kr] at h; subst h; rfl
  | .bool, _, _, h => by simp only [Kr] at h; subst h; rfl
  | .str, _, _, h => by simp only [Kr] at h; subst h; rfl
  | .ptr _, _, _, h => by simp only [Kr] at h; obtain ⟨_, rfl, _⟩ := h; rfl
  | .list _, _, _, h => by simp only [Kr] at h; obtain ⟨_, _, rfl, _⟩ := h; rfl
  | .pair a b, _, _, h => by
    simp only [Kr] at h; obtain ⟨_, _, rfl, h1, h2⟩ := h
    simp [Kd.w, Kr_len h1, Kr_len h2]

theorem ptrR_mono {G G' : Gh} (h : G.le G') {t : Nat} {p : Option Nat} {v : Option Addr} (hp : ptrR G t p v) : ptrR G' t p v := by
  cases p with
  | none => exact hp
  | some i => obtain ⟨b, rfl, hb⟩ := hp; exact ⟨b, rfl, Gh.obj_mono h hb⟩

theorem Kr_mono {G G' : Gh} (h : G.le G') : ∀ {k : Kd} {x : k.den} {cs : List Value}, Kr G k x cs → Kr G' k x cs
  | .unit, _, _, h1 => h1
  | .int _, _, _, h1 => h1
  | .bool, _, _, h1 => h1
  | .str, _, _, h1 => h1
  | .ptr _, _, _, h1 => by
    simp only [Kr] at h1 ⊢; obtain ⟨v, rfl, hv⟩ := h1; exact ⟨v, rfl, ptrR_mono h hv⟩
  | .list k, xs, cs, h1 => by
    simp only [Kr] at h1 ⊢
    obtain ⟨A, c, rfl, hc, h2⟩ := h1
    refine ⟨A, c, rfl, hc, ?_⟩
    rcases h2 with h2 | ⟨b, off, p, rfl, hp, hr⟩
    · exact .inl h2
    · obtain ⟨q, hq⟩ := Gh.pre_mono h hp
      refine .inr ⟨b, off, p ++ q, rfl, hq, ?_⟩
      rw [List.drop_append]
      exact rowR_append (rowR_mono (fun x cs hx => Kr_mono h hx) hr)
  | .pair a b, _, _, h1 => by
    simp only [Kr] at h1 ⊢
    obtain ⟨c1, c2, rfl, h2, h3⟩ := h1
    exact ⟨c1, c2, rfl, Kr_mono h h2, Kr_mono h h3⟩

def VR (G : Gh) (k : Kd) (x : k.den) (v : Value) : Prop :=
  match k.agg with
  | true => ∃ cs : Array Value, v = .agg cs ∧ Kr G k x cs.toList
  | false => Kr G k x [v]

theorem VR_mono {G G' : Gh} (h : G.le G') {k : Kd} {x : k.den} {v : Value} (hv : VR G k x v) : VR G' k x v := by
  unfold VR at *
  split
  · rename_i hk; simp only [hk] at hv; obtain ⟨cs, rfl, hc⟩ := hv; exact ⟨cs, rfl, Kr_mono h hc⟩
  · rename_i hk; simp only [hk] at hv; exact Kr_mono h hv

theorem VR_cells {G : Gh} {k : Kd} {x : k.den} {v : Value} (hv : VR G k x v) : Kr G k x v.cells.toList := by
  unfold VR at hv
  split at hv
  · obtain ⟨cs, rfl, hc⟩ := hv; exact hc
  · rename_i hk
    cases k <;> simp [Kd.agg] at hk <;> simp only [Kr] at hv ⊢
    · simp at hv; subst hv; rfl
    · simp at hv; subst hv; rfl
    · simp at hv; subst hv; rfl
    · obtain ⟨u, hu, hp⟩ := hv; simp at hu; subst hu; exact ⟨u, rfl, hp⟩
    · obtain ⟨A, c, hu, hp⟩ := hv; simp at hu; subst hu; exact ⟨A, c, rfl, hp⟩

/-! ### Entries -/
structure KV where
  k : Kd
  x : k.den

inductive En where
  | kv (k : Kd) (x : k.den)
  | val (v : Value)
  | tl (v : Value) (k : Kd) (xs : List k.den)
  | pl (k : Kd) (xs : List k.den)
  | tup (l : List KV)
  | fldA (t i off : Nat)
  | fm (t i f : Nat)
  | elA (k : Kd) (x : k.den) (off : Nat)
  | sA (v : Value) (w i off : Nat)
  | clo (f : Nat) (l : List (Nat × Nat))
  | cnd (s : Nat) (want : Bool) (e : En)
  | undef

def EnA (G : Gh) (a : Act) : En → Value → Prop
  | .kv k x, v => VR G k x v
  | .val u, v => v = u
  | .tl u k xs, v => v = u ∧ VR G (.list k) xs v
  | .pl k xs, v => ∃ b c e n, v = .slice (some ⟨b, 0, none⟩) xs.length n ∧ xs.length ≤ n ∧ G.role b = .pub (.cells c e (0, 0)) ∧ c.size = xs.length * k.w ∧ (∀ u ∈ c.toList, u.oneCell' = true) ∧ rowR (Kr G k) k.w xs c.toList
  | .tup l, v => ∃ vs : Array Value, v = .tuple vs ∧ All2 (fun kv u => VR G kv.k kv.x u) l vs.toList
  | .fldA t i off, v => ∃ b, G.role b = .obj t i ∧ v = .pointer (some ⟨b, off, none⟩)
  | .fm t i f, v => ∃ r, v = .map (some r) ∧ G.role r = .fld t i f
  | .elA k x off, v => ∃ b o p, v = .pointer (some ⟨b, o + off, none⟩) ∧ G.pre b = some p ∧ o + k.w ≤ p.length ∧ Kr G k x ((p.drop o).take k.w)
  | .sA u w i off, v => ∃ b o n c, u = .slice (some ⟨b, o, none⟩) n c ∧ v = .pointer (some ⟨b, o + i * w + off, none⟩)
  | .clo f l, v => ∃ vs : List Value, v = .func (.func f) #[] vs.toArray ∧ All2 (fun (p : Nat × Nat) (u : Value) => ∃ b, G.role b = .obj p.1 p.2 ∧ u = .pointer (some ⟨b, 0, none⟩)) l vs
  | .cnd s want e, v => (a.tmps.getD s Go.undef = .bool want → EnA G a e v) ∧ (a.tmps.getD s Go.undef ≠ .bool want → v = Go.undef)
  | .undef, v => v = Go.undef

def EnR (G : Gh) : En → Value → Prop
  | .kv k x, v => VR G k x v
  | .val u, v => v = u
  | .tl u k xs, v => v = u ∧ VR G (.list k) xs v
  | .pl k xs, v => ∃ b c e n, v = .slice (some ⟨b, 0, none⟩) xs.length n ∧ xs.length ≤ n ∧ G.role b = .pub (.cells c e (0, 0)) ∧ c.size = xs.length * k.w ∧ (∀ u ∈ c.toList, u.oneCell' = true) ∧ rowR (Kr G k) k.w xs c.toList
  | .tup l, v => ∃ vs : Array Value, v = .tuple vs ∧ All2 (fun kv u => VR G kv.k kv.x u) l vs.toList
  | .fldA t i off, v => ∃ b, G.role b = .obj t i ∧ v = .pointer (some ⟨b, off, none⟩)
  | .fm t i f, v => ∃ r, v = .map (some r) ∧ G.role r = .fld t i f
  | .elA k x off, v => ∃ b o p, v = .pointer (some ⟨b, o + off, none⟩) ∧ G.pre b = some p ∧ o + k.w ≤ p.length ∧ Kr G k x ((p.drop o).take k.w)
  | .sA u w i off, v => ∃ b o n c, u = .slice (some ⟨b, o, none⟩) n c ∧ v = .pointer (some ⟨b, o + i * w + off, none⟩)
  | .clo f l, v => ∃ vs : List Value, v = .func (.func f) #[] vs.toArray ∧ All2 (fun (p : Nat × Nat) (u : Value) => ∃ b, G.role b = .obj p.1 p.2 ∧ u = .pointer (some ⟨b, 0, none⟩)) l vs
  | .cnd _ _ _, _ => False
  | .undef, v => v = Go.undef

def En.plain : En → Bool
  | .cnd _ _ _ => false
  | _ => true

theorem EnA_of_EnR {G : Gh} {a : Act} {e : En} {v : Value} (h : EnR G e v) : EnA G a e v := by
  cases e <;> first | exact h | exact h.elim

theorem EnR_of_EnA {G : Gh} {a : Act} {e : En} {v : Value} (hp : e.plain = true) (h : EnA G a e v) : EnR G e v := by
  cases e <;> first | exact h | simp [En.plain] at hp

theorem EnR_mono {G G' : Gh} (h : G.le G') {e : En} {v : Value} (hv : EnR G e v) : EnR G' e v := by
  cases e with
  | kv k x => exact VR_mono h hv
  | val u => exact hv
  | tl u k xs => exact ⟨hv.1, VR_mono h hv.2⟩
  | pl k xs =>
    obtain ⟨b, c, e, n, rfl, hn, hb, hs, h1, hr⟩ := hv
    refine ⟨b, c, e, n, rfl, hn, ?_, hs, h1, rowR_mono (fun x cs hx => Kr_mono h hx) hr⟩
    have := h.2 b
    rw [hb] at this
    exact this
  | tup l =>
    obtain ⟨vs, rfl, hf⟩ := hv
    exact ⟨vs, rfl, All2.imp (fun _ _ hx => VR_mono h hx) hf⟩
  | fldA t i off => obtain ⟨b, hb, rfl⟩ := hv; exact ⟨b, Gh.obj_mono h hb, rfl⟩
  | fm t i f => obtain ⟨r, rfl, hr⟩ := hv; exact ⟨r, rfl, Gh.fld_mono h hr⟩
  | elA k x off =>
    obtain ⟨b, o, p, rfl, hp, hl, hx⟩ := hv
    obtain ⟨q, hq⟩ := Gh.pre_mono h hp
    refine ⟨b, o, p ++ q, rfl, hq, ?_, ?_⟩
    · simp only [List.length_append]; omega
    · rw [List.drop_append, List.take_append_of_le_length (by rw [List.length_drop]; omega)]; exact Kr_mono h hx
  | sA u w i off => exact hv
  | clo f l => obtain ⟨vs, rfl, hf⟩ := hv; exact ⟨vs, rfl, All2.imp (fun _ _ hx => hx.elim fun b hb => ⟨b, Gh.obj_mono h hb.1, hb.2⟩) hf⟩
  | cnd s w e => exact hv.elim
  | undef => exact hv

abbrev Env := List (Nat × En)

def lk : Env → Nat → Option En
  | [], _ => none
  | (s, e) :: r, t => match Nat.beq s t with | true => some e | false => lk r t

def EnvR (G : Gh) (N : Nat) (a : Act) (E : Env) : Prop :=
  a.tmps.size = N ∧ a.defers = [] ∧ ∀ s e, lk E s = some e → EnR G e (a.tmps.getD s Go.undef)

theorem EnvR.mono {G G' : Gh} (h : G.le G') {N : Nat} {a : Act} {E : Env} (hE : EnvR G N a E) : EnvR G' N a E :=
  ⟨hE.1, hE.2.1, fun s e hs => EnR_mono h (hE.2.2 s e hs)⟩

theorem getD_put {a : Act} {d : Nat} {v : Value} (hd : d < a.tmps.size) (s : Nat) :
    (a.put (some d) v).tmps.getD s Go.undef = if s = d then v else a.tmps.getD s Go.undef := by
  simp only [Act.put, Array.getD_eq_getD_getElem?, Array.getElem?_setIfInBounds]
  by_cases h : s = d
  · subst h; simp [hd]
  · simp [h, Ne.symm h]

theorem lk_cons (s : Nat) (e : En) (r : Env) (t : Nat) : lk ((s, e) :: r) t = if s = t then some e else lk r t := by
  simp only [lk]
  cases h : Nat.beq s t with
  | true => simp [Nat.eq_of_beq_eq_true h]
  | false => simp [Nat.ne_of_beq_eq_false h]

theorem lk_append (A B : Env) (t : Nat) : lk (A ++ B) t = (lk A t).orElse fun _ => lk B t := by
  induction A with
  | nil => simp [lk]
  | cons p A ih =>
    obtain ⟨s, e⟩ := p
    rw [List.cons_append, lk_cons, lk_cons, ih]
    split <;> simp

theorem EnvR.put {G : Gh} {N : Nat} {a : Act} {E : Env} (hE : EnvR G N a E) {d : Nat} (hd : d < N) {v : Value} {e : En} (hv : EnR G e v) :
    EnvR G N (a.put (some d) v) ((d, e) :: E) := by
  have hd' : d < a.tmps.size := by rw [hE.1]; exact hd
  refine ⟨by simp [Act.put, hE.1], by simp [Act.put, hE.2.1], ?_⟩
  intro s e' hs
  rw [lk_cons] at hs
  rw [getD_put hd']
  by_cases h : d = s
  · subst h; simp at hs; subst hs; simpa using hv
  · rw [if_neg h] at hs; rw [if_neg (Ne.symm h)]; exact hE.2.2 s e' hs

theorem EnvR.putNone {G : Gh} {N : Nat} {a : Act} {E : Env} (hE : EnvR G N a E) {v : Value} : EnvR G N (a.put none v) E := hE

/-- The new list holds entries of the old one only. -/
def subE (E : Env) : Env → Prop
  | [] => True
  | (s, e) :: r => lk E s = some e ∧ subE E r

theorem subE_lk {E : Env} : ∀ {F : Env}, subE E F → ∀ s e, lk F s = some e → lk E s = some e
  | [], _, s, e, h => by simp [lk] at h
  | (t, e') :: r, ⟨h1, h2⟩, s, e, h => by
    rw [lk_cons] at h
    by_cases ht : t = s
    · subst ht; simp at h; subst h; exact h1
    · rw [if_neg ht] at h; exact subE_lk h2 s e h

theorem EnvR.sub {G : Gh} {N : Nat} {a : Act} {E F : Env} (hE : EnvR G N a E) (h : subE E F) : EnvR G N a F :=
  ⟨hE.1, hE.2.1, fun s e hs => hE.2.2 s e (subE_lk h s e hs)⟩

end Go.Proofs.Ytlfemhkabjafeaa.M
