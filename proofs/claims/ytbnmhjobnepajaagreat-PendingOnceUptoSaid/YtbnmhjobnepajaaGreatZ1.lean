/- Own texts, laid together: B0 B1 B2 B3 B4 B5 B6 B7 B8 B9 B10 B11 B12 B13. -/
import Derived.Below
import Derived.Calls
import Derived.KernelRfl
import Derived.Laws.BytesString
import Derived.Laws.Cells
import Derived.Laws.Strings
import Derived.Laws.World
import Derived.Orders
import Derived.RegionTactic
import Derived.Room.AppendOwn
import Derived.Tactics
set_option linter.unusedVariables false
set_option linter.unusedSimpArgs false
namespace Go.Proofs.YtbnmhjobnepajaaGreat.M

inductive Own where
  | dead
  | loc
  | fld (t i f : Nat)

inductive nX where
  | free
  | pub (o : Obj)
  | grow (o : Own) (pre : List Value)
  | obj (t i : Nat)
  | fld (t i f : Nat)
  | loc

structure Gh where
  role : Nat → nX
  base : World

def Gh.pre (G : Gh) (b : Nat) : Option (List Value) :=
  match G.role b with
  | .pub (.cells c _ _) => some c.toList
  | .grow _ p => some p
  | _ => none

def nX.le : nX → nX → Prop
  | .pub o, r => r = .pub o
  | .obj t i, r => r = .obj t i
  | .fld t i f, r => r = .fld t i f
  | .grow _ p, r => ∃ o q, r = .grow o (p ++ q)
  | _, _ => True

def Gh.le (G G' : Gh) : Prop := G'.base = G.base ∧ ∀ b, (G.role b).le (G'.role b)

theorem nX.le_refl (r : nX) : r.le r := by
  cases r with
  | grow o p => exact ⟨o, [], by simp⟩
  | _ => simp [nX.le]

theorem nX.le_trans {a b c : nX} (h : a.le b) (k : b.le c) : a.le c := by
  cases a <;> simp only [nX.le] at h ⊢
  · subst h; exact k
  · obtain ⟨o, q, rfl⟩ := h
    obtain ⟨o', q', rfl⟩ := k
    exact ⟨o', q ++ q', by rw [List.append_assoc]⟩
  · subst h; exact k
  · subst h; exact k

theorem Gh.le_refl (G : Gh) : G.le G := ⟨rfl, fun _ => nX.le_refl _⟩
theorem Gh.le_trans {A B C : Gh} (h : A.le B) (k : B.le C) : A.le C :=
  ⟨k.1.trans h.1, fun b => nX.le_trans (h.2 b) (k.2 b)⟩

theorem Gh.Q8 {G G' : Gh} (h : G.le G') {b : Nat} {p : List Value} (hp : G.pre b = some p) : ∃ q, G'.pre b = some (p ++ q) := by
  have hb := h.2 b
  unfold Gh.pre at hp ⊢
  cases hr : G.role b with
  | pub o =>
    rw [hr] at hp hb
    simp only [nX.le] at hb
    rw [hb]
    exact ⟨[], by simpa using hp⟩
  | grow o q =>
    rw [hr] at hp hb
    simp only [Option.some.injEq] at hp
    subst hp
    simp only [nX.le] at hb
    obtain ⟨o', q', hq⟩ := hb
    rw [hq]
    exact ⟨q', rfl⟩
  | free => rw [hr] at hp; simp at hp
  | obj t i => rw [hr] at hp; simp at hp
  | fld t i f => rw [hr] at hp; simp at hp
  | loc => rw [hr] at hp; simp at hp

theorem Gh.Yo {G G' : Gh} (h : G.le G') {b t i f : Nat} (hr : G.role b = .fld t i f) : G'.role b = .fld t i f := by
  have := h.2 b
  rw [hr] at this
  exact this

theorem Gh.KJ {G G' : Gh} (h : G.le G') {b t i : Nat} (hr : G.role b = .obj t i) : G'.role b = .obj t i := by
  have := h.2 b
  rw [hr] at this
  exact this

def cO {α β : Type} (R : α → β → Prop) : List α → List β → Prop
  | [], [] => True
  | x :: xs, y :: ys => R x y ∧ cO R xs ys
  | _, _ => False

theorem cO.imp {α β : Type} {R R' : α → β → Prop} (h : ∀ x y, R x y → R' x y) : ∀ {xs : List α} {ys : List β}, cO R xs ys → cO R' xs ys
  | [], [], _ => trivial
  | _ :: _, _ :: _, ⟨h1, h2⟩ => ⟨h _ _ h1, cO.imp h h2⟩
  | [], _ :: _, h1 => h1.elim
  | _ :: _, [], h1 => h1.elim

theorem cO.length {α β : Type} {R : α → β → Prop} : ∀ {xs : List α} {ys : List β}, cO R xs ys → xs.length = ys.length
  | [], [], _ => rfl
  | _ :: _, _ :: _, ⟨_, h2⟩ => by simp [cO.length h2]
  | [], _ :: _, h1 => h1.elim
  | _ :: _, [], h1 => h1.elim

theorem cO.get {α β : Type} {R : α → β → Prop} : ∀ {xs : List α} {ys : List β} {i : Nat} {x : α}, cO R xs ys → xs[i]? = some x → ∃ y, ys[i]? = some y ∧ R x y
  | x :: _, y :: _, 0, z, ⟨h1, _⟩, h => by simp at h; subst h; exact ⟨y, by simp, h1⟩
  | _ :: xs, _ :: ys, i + 1, z, ⟨_, h2⟩, h => by
    obtain ⟨y, hy, hr⟩ := cO.get h2 (i := i) (x := z) (by simpa using h)
    exact ⟨y, by simpa using hy, hr⟩
  | [], [], i, z, _, h => by simp at h
  | [], _ :: _, _, _, h1, _ => h1.elim
  | _ :: _, [], _, _, h1, _ => h1.elim

inductive Kd where
  | unit
  | int (k : IntKind)
  | bool
  | str
  | ptr (t : Nat)
  | list (k : Kd)
  | pair (a b : Kd)
  deriving DecidableEq

@[reducible] def Kd.den : Kd → Type
  | .unit => Unit
  | .int _ => Int
  | .bool => Bool
  | .str => List UInt8
  | .ptr _ => Option Nat
  | .list k => List k.den
  | .pair a b => a.den × b.den

def Kd.w : Kd → Nat
  | .unit => 0
  | .pair a b => a.w + b.w
  | _ => 1

def Kd.agg : Kd → Bool
  | .unit => true
  | .pair _ _ => true
  | _ => false

def jQ {α : Type} (R : α → List Value → Prop) (w : Nat) : List α → List Value → Prop
  | [], _ => True
  | x :: xs, cs => w ≤ cs.length ∧ R x (cs.take w) ∧ jQ R w xs (cs.drop w)

theorem BO {α : Type} {R : α → List Value → Prop} {w : Nat} : ∀ {xs : List α} {cs ds : List Value}, jQ R w xs cs → jQ R w xs (cs ++ ds)
  | [], _, _, _ => trivial
  | x :: xs, cs, ds, ⟨h1, h2, h3⟩ => by
    refine ⟨by simp; omega, ?_, ?_⟩
    · rw [List.take_append_of_le_length h1]; exact h2
    · rw [List.drop_append_of_le_length h1]; exact BO h3

theorem iV {α : Type} {R R' : α → List Value → Prop} {w : Nat} (hR : ∀ x cs, R x cs → R' x cs) : ∀ {xs : List α} {cs : List Value}, jQ R w xs cs → jQ R' w xs cs
  | [], _, _ => trivial
  | x :: xs, cs, ⟨h1, h2, h3⟩ => ⟨h1, hR _ _ h2, iV hR h3⟩

theorem KZ {α : Type} {R : α → List Value → Prop} {w : Nat} : ∀ {xs : List α} {cs : List Value} {i : Nat} {x : α}, jQ R w xs cs → xs[i]? = some x →
    w ≤ (cs.drop (i * w)).length ∧ R x ((cs.drop (i * w)).take w)
  | [], _, i, x, _, h => by simp at h
  | y :: ys, cs, 0, x, ⟨h1, h2, h3⟩, h => by
    simp at h; subst h; simpa using ⟨h1, h2⟩
  | y :: ys, cs, i + 1, x, ⟨h1, h2, h3⟩, h => by
    have := KZ h3 (i := i) (x := x) (by simpa using h)
    rw [List.drop_drop] at this
    rwa [Nat.succ_mul, Nat.add_comm (i * w) w]

theorem NS {α : Type} {R : α → List Value → Prop} {w : Nat} : ∀ {xs : List α} {cs : List Value} (i : Nat), jQ R w xs cs → jQ R w (xs.drop i) (cs.drop (i * w))
  | xs, cs, 0, h => by simpa using h
  | [], cs, i + 1, h => by simp [jQ]
  | x :: xs, cs, i + 1, ⟨_, _, h⟩ => by
    have := NS i h
    rw [List.drop_drop] at this
    rwa [Nat.succ_mul, Nat.add_comm (i * w) w]

theorem NV {α : Type} {R : α → List Value → Prop} {w : Nat} : ∀ {xs : List α} {cs : List Value} (i : Nat), jQ R w xs cs → jQ R w (xs.take i) cs
  | xs, cs, 0, h => by simp [jQ]
  | [], cs, i + 1, h => by simp [jQ]
  | x :: xs, cs, i + 1, ⟨h1, h2, h⟩ => ⟨h1, h2, NV i h⟩

theorem Ro {α : Type} {R : α → List Value → Prop} {w : Nat} : ∀ {xs : List α} {cs : List Value}, jQ R w xs cs → xs.length * w ≤ cs.length
  | [], _, _ => by simp
  | x :: xs, cs, ⟨h1, h2, h⟩ => by
    have := Ro h
    simp at this
    simp [Nat.succ_mul]; omega

theorem F5 {α : Type} {R : α → List Value → Prop} {w : Nat} : ∀ {xs ys : List α} {cs ds : List Value}, jQ R w xs cs → cs.length = xs.length * w → jQ R w ys ds → jQ R w (xs ++ ys) (cs ++ ds)
  | [], ys, cs, ds, _, hl, hy => by
    simp at hl; subst hl; simpa using hy
  | y :: zs, ys, cs, ds, ⟨h1, h2, h3⟩, hl, hy => by
    refine ⟨by simp; omega, ?_, ?_⟩
    · rw [List.take_append_of_le_length h1]; exact h2
    · rw [List.drop_append_of_le_length h1]
      refine F5 h3 ?_ hy
      simp [Nat.succ_mul] at hl ⊢; omega

theorem Rn {α : Type} {R : α → List Value → Prop} {w : Nat} : ∀ {xs : List α} {cs : List Value}, jQ R w xs cs → jQ R w xs (cs.take (xs.length * w))
  | [], _, _ => by simp [jQ]
  | x :: xs, cs, ⟨h1, h2, h3⟩ => by
    have := Rn h3
    refine ⟨by simp [Nat.succ_mul]; omega, ?_, ?_⟩
    · rw [List.take_take]; rwa [Nat.min_eq_left (by simp [Nat.succ_mul])]
    · simp only [List.length_cons, Nat.succ_mul]
      rw [List.drop_take, show xs.length * w + w - w = xs.length * w by omega]
      exact this

def TT (G : Gh) (t : Nat) : Option Nat → Option Addr → Prop
  | none, v => v = none
  | some i, v => ∃ b, v = some ⟨b, 0, none⟩ ∧ G.role b = .obj t i

def Kr (G : Gh) : (k : Kd) → k.den → List Value → Prop
  | .unit, _, cs => cs = []
  | .int k, n, cs => cs = [.int k n]
  | .bool, b, cs => cs = [.bool b]
  | .str, s, cs => cs = [.string ⟨s.toArray⟩]
  | .ptr t, p, cs => ∃ v, cs = [.pointer v] ∧ TT G t p v
  | .list k, xs, cs => ∃ A c, cs = [.slice A xs.length c] ∧ xs.length ≤ c ∧ (xs = [] ∨ ∃ b off p, A = some ⟨b, off, none⟩ ∧ G.pre b = some p ∧ jQ (Kr G k) k.w xs (p.drop off))
  | .pair a b, x, cs => ∃ c1 c2, cs = c1 ++ c2 ∧ Kr G a x.1 c1 ∧ Kr G b x.2 c2

theorem iM {G : Gh} : ∀ {k : Kd} {x : k.den} {cs : List Value}, Kr G k x cs → cs.length = k.w
  | .unit, _, _, h => by simp only [Kr] at h; subst h; rfl
  | .int _, _, _, h => by simp only [Kr] at h; subst h; rfl
  | .bool, _, _, h => by simp only [Kr] at h; subst h; rfl
  | .str, _, _, h => by simp only [Kr] at h; subst h; rfl
  | .ptr _, _, _, h => by simp only [Kr] at h; obtain ⟨_, rfl, _⟩ := h; rfl
  | .list _, _, _, h => by simp only [Kr] at h; obtain ⟨_, _, rfl, _⟩ := h; rfl
  | .pair a b, _, _, h => by
    simp only [Kr] at h; obtain ⟨_, _, rfl, h1, h2⟩ := h
    simp [Kd.w, iM h1, iM h2]

theorem Wy {G G' : Gh} (h : G.le G') {t : Nat} {p : Option Nat} {v : Option Addr} (hp : TT G t p v) : TT G' t p v := by
  cases p with
  | none => exact hp
  | some i => obtain ⟨b, rfl, hb⟩ := hp; exact ⟨b, rfl, Gh.KJ h hb⟩

theorem eP {G G' : Gh} (h : G.le G') : ∀ {k : Kd} {x : k.den} {cs : List Value}, Kr G k x cs → Kr G' k x cs
  | .unit, _, _, h1 => h1
  | .int _, _, _, h1 => h1
  | .bool, _, _, h1 => h1
  | .str, _, _, h1 => h1
  | .ptr _, _, _, h1 => by
    simp only [Kr] at h1 ⊢; obtain ⟨v, rfl, hv⟩ := h1; exact ⟨v, rfl, Wy h hv⟩
  | .list k, xs, cs, h1 => by
    simp only [Kr] at h1 ⊢
    obtain ⟨A, c, rfl, hc, h2⟩ := h1
    refine ⟨A, c, rfl, hc, ?_⟩
    rcases h2 with h2 | ⟨b, off, p, rfl, hp, hr⟩
    · exact .inl h2
    · obtain ⟨q, hq⟩ := Gh.Q8 h hp
      refine .inr ⟨b, off, p ++ q, rfl, hq, ?_⟩
      rw [List.drop_append]
      exact BO (iV (fun x cs hx => eP h hx) hr)
  | .pair a b, _, _, h1 => by
    simp only [Kr] at h1 ⊢
    obtain ⟨c1, c2, rfl, h2, h3⟩ := h1
    exact ⟨c1, c2, rfl, eP h h2, eP h h3⟩

def VR (G : Gh) (k : Kd) (x : k.den) (v : Value) : Prop :=
  match k.agg with
  | true => ∃ cs : Array Value, v = .agg cs ∧ Kr G k x cs.toList
  | false => Kr G k x [v]

theorem zq {G G' : Gh} (h : G.le G') {k : Kd} {x : k.den} {v : Value} (hv : VR G k x v) : VR G' k x v := by
  unfold VR at *
  split
  · rename_i hk; simp only [hk] at hv; obtain ⟨cs, rfl, hc⟩ := hv; exact ⟨cs, rfl, eP h hc⟩
  · rename_i hk; simp only [hk] at hv; exact eP h hv

theorem qh {G : Gh} {k : Kd} {x : k.den} {v : Value} (hv : VR G k x v) : Kr G k x v.cells.toList := by
  unfold VR at hv
  split at hv
  · obtain ⟨cs, rfl, hc⟩ := hv; exact hc
  · rename_i hk
    cases k <;> simp [Kd.agg] at hk <;> simp only [Kr] at hv ⊢
    · simp at hv; subst hv; rfl
    · simp at hv; subst hv; rfl
    · simp at hv; subst hv; rfl
    · obtain ⟨u, hu, hp⟩ := hv; simp at hu; subst hu; exact ⟨u, rfl, hp⟩
    · obtain ⟨A, c, hu, hp⟩ := hv; simp at hu; subst hu; exact ⟨A, c, rfl, hp⟩

structure KV where
  k : Kd
  x : k.den

inductive En where
  | kv (k : Kd) (x : k.den)
  | val (v : Value)
  | tl (v : Value) (k : Kd) (xs : List k.den)
  | pl (k : Kd) (xs : List k.den)
  | cp (k : Kd) (xs : List k.den)
  | lp
  | tup (l : List KV)
  | fldA (t i off : Nat)
  | fm (t i f : Nat)
  | elA (k : Kd) (x : k.den) (off : Nat)
  | sA (v : Value) (w i off : Nat)
  | clo (f : Nat) (l : List (Nat × Nat))
  | bnd (f : Nat) (k : Kd) (x : k.den)
  | cnd (s : Nat) (want : Bool) (e : En)
  | undef

def EnA (G : Gh) (a : Act) : En → Value → Prop
  | .kv k x, v => VR G k x v
  | .val u, v => v = u
  | .tl u k xs, v => v = u ∧ VR G (.list k) xs v
  | .pl k xs, v => ∃ b c e n, v = .slice (some ⟨b, 0, none⟩) xs.length n ∧ n = xs.length ∧ G.role b = .pub (.cells c e (0, 0)) ∧ c.size = xs.length * k.w ∧ (∀ u ∈ c.toList, u.oneCell' = true) ∧ jQ (Kr G k) k.w xs c.toList
  | .lp, v => ∃ b, v = .pointer (some ⟨b, 0, none⟩)
  | .cp k xs, v => ∃ A, v = .slice A xs.length xs.length ∧ VR G (.list k) xs v
  | .tup l, v => ∃ vs : Array Value, v = .tuple vs ∧ cO (fun kv u => VR G kv.k kv.x u) l vs.toList
  | .fldA t i off, v => ∃ b, G.role b = .obj t i ∧ v = .pointer (some ⟨b, off, none⟩)
  | .fm t i f, v => ∃ r, v = .map (some r) ∧ G.role r = .fld t i f
  | .elA k x off, v => ∃ b o p, v = .pointer (some ⟨b, o + off, none⟩) ∧ G.pre b = some p ∧ o + k.w ≤ p.length ∧ Kr G k x ((p.drop o).take k.w)
  | .sA u w i off, v => ∃ b o n c, u = .slice (some ⟨b, o, none⟩) n c ∧ v = .pointer (some ⟨b, o + i * w + off, none⟩)
  | .clo f l, v => ∃ vs : List Value, v = .func (.func f) #[] vs.toArray ∧ cO (fun (p : Nat × Nat) (u : Value) => ∃ b, G.role b = .obj p.1 p.2 ∧ u = .pointer (some ⟨b, 0, none⟩)) l vs
  | .bnd f k x, v => ∃ u, v = .func (.func f) #[u] #[] ∧ VR G k x u
  | .cnd s want e, v => (a.tmps.getD s Go.undef = .bool want → EnA G a e v) ∧ (a.tmps.getD s Go.undef ≠ .bool want → v = Go.undef)
  | .undef, v => v = Go.undef

def EnR (G : Gh) : En → Value → Prop
  | .kv k x, v => VR G k x v
  | .val u, v => v = u
  | .tl u k xs, v => v = u ∧ VR G (.list k) xs v
  | .pl k xs, v => ∃ b c e n, v = .slice (some ⟨b, 0, none⟩) xs.length n ∧ n = xs.length ∧ G.role b = .pub (.cells c e (0, 0)) ∧ c.size = xs.length * k.w ∧ (∀ u ∈ c.toList, u.oneCell' = true) ∧ jQ (Kr G k) k.w xs c.toList
  | .lp, v => ∃ b, v = .pointer (some ⟨b, 0, none⟩)
  | .cp k xs, v => ∃ A, v = .slice A xs.length xs.length ∧ VR G (.list k) xs v
  | .tup l, v => ∃ vs : Array Value, v = .tuple vs ∧ cO (fun kv u => VR G kv.k kv.x u) l vs.toList
  | .fldA t i off, v => ∃ b, G.role b = .obj t i ∧ v = .pointer (some ⟨b, off, none⟩)
  | .fm t i f, v => ∃ r, v = .map (some r) ∧ G.role r = .fld t i f
  | .elA k x off, v => ∃ b o p, v = .pointer (some ⟨b, o + off, none⟩) ∧ G.pre b = some p ∧ o + k.w ≤ p.length ∧ Kr G k x ((p.drop o).take k.w)
  | .sA u w i off, v => ∃ b o n c, u = .slice (some ⟨b, o, none⟩) n c ∧ v = .pointer (some ⟨b, o + i * w + off, none⟩)
  | .clo f l, v => ∃ vs : List Value, v = .func (.func f) #[] vs.toArray ∧ cO (fun (p : Nat × Nat) (u : Value) => ∃ b, G.role b = .obj p.1 p.2 ∧ u = .pointer (some ⟨b, 0, none⟩)) l vs
  | .bnd f k x, v => ∃ u, v = .func (.func f) #[u] #[] ∧ VR G k x u
  | .cnd _ _ _, _ => False
  | .undef, v => v = Go.undef

def En.plain : En → Bool
  | .cnd _ _ _ => false
  | _ => true

theorem kY {G : Gh} {a : Act} {e : En} {v : Value} (h : EnR G e v) : EnA G a e v := by
  cases e <;> first | exact h | exact h.elim

theorem iw {G : Gh} {a : Act} {e : En} {v : Value} (hp : e.plain = true) (h : EnA G a e v) : EnR G e v := by
  cases e <;> first | exact h | simp [En.plain] at hp

theorem pY {G G' : Gh} (h : G.le G') {e : En} {v : Value} (hv : EnR G e v) : EnR G' e v := by
  cases e with
  | kv k x => exact zq h hv
  | val u => exact hv
  | tl u k xs => exact ⟨hv.1, zq h hv.2⟩
  | pl k xs =>
    obtain ⟨b, c, e, n, rfl, hn, hb, hs, h1, hr⟩ := hv
    refine ⟨b, c, e, n, rfl, hn, ?_, hs, h1, iV (fun x cs hx => eP h hx) hr⟩
    have := h.2 b
    rw [hb] at this
    exact this
  | lp => exact hv
  | cp k xs => obtain ⟨A, rfl, hx⟩ := hv; exact ⟨A, rfl, zq h hx⟩
  | tup l =>
    obtain ⟨vs, rfl, hf⟩ := hv
    exact ⟨vs, rfl, cO.imp (fun _ _ hx => zq h hx) hf⟩
  | fldA t i off => obtain ⟨b, hb, rfl⟩ := hv; exact ⟨b, Gh.KJ h hb, rfl⟩
  | fm t i f => obtain ⟨r, rfl, hr⟩ := hv; exact ⟨r, rfl, Gh.Yo h hr⟩
  | elA k x off =>
    obtain ⟨b, o, p, rfl, hp, hl, hx⟩ := hv
    obtain ⟨q, hq⟩ := Gh.Q8 h hp
    refine ⟨b, o, p ++ q, rfl, hq, ?_, ?_⟩
    · simp only [List.length_append]; omega
    · rw [List.drop_append, List.take_append_of_le_length (by rw [List.length_drop]; omega)]; exact eP h hx
  | sA u w i off => exact hv
  | clo f l => obtain ⟨vs, rfl, hf⟩ := hv; exact ⟨vs, rfl, cO.imp (fun _ _ hx => hx.elim fun b hb => ⟨b, Gh.KJ h hb.1, hb.2⟩) hf⟩
  | bnd f k x => obtain ⟨u, rfl, hx⟩ := hv; exact ⟨u, rfl, zq h hx⟩
  | cnd s w e => exact hv.elim
  | undef => exact hv

abbrev Env := List (Nat × En)

def lk : Env → Nat → Option En
  | [], _ => none
  | (s, e) :: r, t => match Nat.beq s t with | true => some e | false => lk r t

def dD (G : Gh) (N : Nat) (a : Act) (E : Env) : Prop :=
  a.tmps.size = N ∧ a.defers = [] ∧ ∀ s e, lk E s = some e → EnR G e (a.tmps.getD s Go.undef)

theorem dD.mono {G G' : Gh} (h : G.le G') {N : Nat} {a : Act} {E : Env} (hE : dD G N a E) : dD G' N a E :=
  ⟨hE.1, hE.2.1, fun s e hs => pY h (hE.2.2 s e hs)⟩

theorem sG {a : Act} {d : Nat} {v : Value} (hd : d < a.tmps.size) (s : Nat) :
    (a.put (some d) v).tmps.getD s Go.undef = if s = d then v else a.tmps.getD s Go.undef := by
  simp only [Act.put, Array.getD_eq_getD_getElem?, Array.getElem?_setIfInBounds]
  by_cases h : s = d
  · subst h; simp [hd]
  · simp [h, Ne.symm h]

theorem dP (s : Nat) (e : En) (r : Env) (t : Nat) : lk ((s, e) :: r) t = if s = t then some e else lk r t := by
  simp only [lk]
  cases h : Nat.beq s t with
  | true => simp [Nat.eq_of_beq_eq_true h]
  | false => simp [Nat.ne_of_beq_eq_false h]

theorem jT (A B : Env) (t : Nat) : lk (A ++ B) t = (lk A t).orElse fun _ => lk B t := by
  induction A with
  | nil => simp [lk]
  | cons p A ih =>
    obtain ⟨s, e⟩ := p
    rw [List.cons_append, dP, dP, ih]
    split <;> simp

theorem dD.put {G : Gh} {N : Nat} {a : Act} {E : Env} (hE : dD G N a E) {d : Nat} (hd : d < N) {v : Value} {e : En} (hv : EnR G e v) :
    dD G N (a.put (some d) v) ((d, e) :: E) := by
  have hd' : d < a.tmps.size := by rw [hE.1]; exact hd
  refine ⟨by simp [Act.put, hE.1], by simp [Act.put, hE.2.1], ?_⟩
  intro s e' hs
  rw [dP] at hs
  rw [sG hd']
  by_cases h : d = s
  · subst h; simp at hs; subst hs; simpa using hv
  · rw [if_neg h] at hs; rw [if_neg (Ne.symm h)]; exact hE.2.2 s e' hs

end Go.Proofs.YtbnmhjobnepajaaGreat.M


namespace Go.Proofs.YtbnmhjobnepajaaGreat.M

def TF : List (Nat × Bool) → Nat → Bool → Bool
  | [], _, _ => false
  | (s, w) :: r, t, u => match Nat.beq s t with
    | true => (match w, u with | true, true => true | false, false => true | _, _ => TF r t u)
    | false => TF r t u

def deref (ctx : List (Nat × Bool)) : En → Option En
  | .cnd s w e => match TF ctx s w with
    | true => deref ctx e
    | false => none
  | e => some e

def OH : Value → En
  | .bool b => .kv .bool b
  | .int k n => .kv (.int k) n
  | .string s => .kv .str s.data.toList
  | v => .val v

def gz (look : Nat → Option En) (ctx : List (Nat × Bool)) : Operand → Option En
  | .tmp t => match look t with
    | some e => deref ctx e
    | none => none
  | .const v => some (OH v)
  | .func f => some (.clo f [])
  | .global _ => none

def aa2 (op : BinOp) (k : IntKind) (a b : Int) : Option En :=
  match op with
  | .add => some (.kv (.int k) (k.wrap (a + b)))
  | .sub => some (.kv (.int k) (k.wrap (a - b)))
  | .mul => some (.kv (.int k) (k.wrap (a * b)))
  | .and => some (.kv (.int k) (k.wrap (BitVec.ofInt k.bits a &&& BitVec.ofInt k.bits b).toNat))
  | .or => some (.kv (.int k) (k.wrap (BitVec.ofInt k.bits a ||| BitVec.ofInt k.bits b).toNat))
  | .xor => some (.kv (.int k) (k.wrap (BitVec.ofInt k.bits a ^^^ BitVec.ofInt k.bits b).toNat))
  | .andNot => some (.kv (.int k) (k.wrap (BitVec.ofInt k.bits a &&& ~~~(BitVec.ofInt k.bits b)).toNat))
  | .eql => some (.kv .bool (a == b))
  | .neq => some (.kv .bool (a != b))
  | .lss => some (.kv .bool (decide (a < b)))
  | .leq => some (.kv .bool (decide (a ≤ b)))
  | .gtr => some (.kv .bool (decide (a > b)))
  | .geq => some (.kv .bool (decide (a ≥ b)))
  | _ => none

def aa4 (op : BinOp) (a b : List UInt8) : Option En :=
  match op with
  | .eql => some (.kv .bool (a == b))
  | .neq => some (.kv .bool (!(a == b)))
  | .lss => some (.kv .bool (Op.bytesLess a b))
  | .leq => some (.kv .bool (Op.bytesLess a b || a == b))
  | .gtr => some (.kv .bool (!(Op.bytesLess a b || a == b)))
  | .geq => some (.kv .bool (!(Op.bytesLess a b)))
  | _ => none

def aa1 (d : Option TypeDesc) (op : BinOp) (a b : Bool) : Option En :=
  match d with
  | some .bool => (match op with
    | .eql => some (.kv .bool (a == b))
    | .neq => some (.kv .bool (!(a == b)))
    | _ => none)
  | _ => none

def aa3 (d : Option TypeDesc) (op : BinOp) (p : Option Nat) : Option En :=
  match d with
  | some (.pointer _) => (match op with
    | .eql => some (.kv .bool p.isNone)
    | .neq => some (.kv .bool (!p.isNone))
    | _ => none)
  | _ => none

def bop (P : Program) (op : BinOp) (t : TypeId) (x y : En) : Option En :=
  match x, y with
  | .kv (.int k) a, .kv (.int k') b =>
    if k = k' then aa2 op k a b else none
  | .kv .str a, .kv .str b => aa4 op a b
  | .kv .bool a, .kv .bool b => aa1 (P.underlying t) op a b
  | .kv (.ptr _) p, .val (.pointer none) => aa3 (P.underlying t) op p
  | _, _ => none

def uop (op : UnOp) (x : En) : Option En :=
  match op, x with
  | .not, .kv .bool b => some (.kv .bool (!b))
  | .neg, .kv (.int k) n => some (.kv (.int k) (k.wrap (0 - n)))
  | .xor, .kv (.int k) n => some (.kv (.int k) (k.wrap (BitVec.ofInt k.bits (if k.signed then -1 else k.max) ^^^ BitVec.ofInt k.bits n).toNat))
  | _, _ => none

def cnv (P : Program) (src dst : TypeId) (x : En) : Option En :=
  match P.underlying src, P.underlying dst, x with
  | some _, some (.int k), .kv (.int _) n => some (.kv (.int k) (k.wrap n))
  | some _, some .string, .kv .str s => some (.kv .str s)
  | _, _, _ => none

def fA (P : Program) (t : TypeId) : Option Nat := (P.info? t).map (·.size)
def AB (P : Program) (t : TypeId) : Option Bool :=
  match P.underlying t with
  | some (.struct _) => some true
  | some (.array _ _) => some true
  | some _ => some false
  | none => none

def O3 (P : Program) (s : TypeId) (f : Nat) : Option Field :=
  match P.underlying s with
  | some (.struct fs) => fs[f]?
  | _ => none

def aay (P : Program) (s : TypeId) (f : Nat) : Option Nat :=
  match O3 P s f with
  | some fd => (match fA P fd.type with
    | some (n + 1) => some fd.offset
    | _ => none)
  | none => none

def abL (P : Program) (s : TypeId) (f : Nat) (x : En) : Option En :=
  match aay P s f with
  | some o => (match x with
    | .kv (.ptr t) (some i) => some (.fldA t i o)
    | .fldA t i off => some (.fldA t i (off + o))
    | .elA k y off => some (.elA k y (off + o))
    | .sA u w i off => some (.sA u w i (off + o))
    | .val (.pointer (some ⟨b, off, none⟩)) => some (.val (.pointer (some ⟨b, off + o, none⟩)))
    | _ => none)
  | none => none

def YW (x : En) : Option En :=
  match x with
  | .fldA t i off => some (.fldA t i off)
  | .elA k y off => some (.elA k y off)
  | .sA u w i off => some (.sA u w i off)
  | .val (.pointer (some a)) => some (.val (.pointer (some a)))
  | .val (.func (.func f) b c) => some (.val (.func (.func f) b c))
  | _ => none

def abQ (d : Option TypeDesc) (x : En) : Option En :=
  match d, x with
  | some .string, .kv .str s => some (.kv (.int .i64) (s.length : Int))
  | some (.slice _), .kv (.list _) xs => some (.kv (.int .i64) (xs.length : Int))
  | some (.slice _), .pl _ xs => some (.kv (.int .i64) (xs.length : Int))
  | some (.slice _), .tl _ _ xs => some (.kv (.int .i64) (xs.length : Int))
  | some (.slice _), .val (.slice _ n _) => some (.kv (.int .i64) (n : Int))
  | _, _ => none

def GY (b : Builtin) (x y : En) : Option En :=
  match b, x, y with
  | .max, .kv (.int k) a, .kv (.int _) b => some (.kv (.int k) (if b > a then b else a))
  | .min, .kv (.int k) a, .kv (.int _) b => some (.kv (.int k) (if b < a then b else a))
  | _, _, _ => none

def Iy : (k : Kd) → k.den → Nat → Option (Nat × KV)
  | .pair a _, x, 0 => some (0, ⟨a, x.1⟩)
  | .pair a b, x, f + 1 => match Iy b x.2 f with
    | some (o, r) => some (a.w + o, r)
    | none => none
  | _, _, _ => none

def Tv (P : Program) (t : TypeId) (f : Nat) (x : En) : Option En :=
  match x, O3 P t f with
  | .kv (.pair a b) y, some fd => (match Iy (.pair a b) y f with
    | some (o, ⟨k, z⟩) =>
      if o = fd.offset ∧ fA P fd.type = some k.w ∧ AB P fd.type = some k.agg then some (.kv k z) else none
    | none => none)
  | _, _ => none

def acG (P : Program) (b : Builtin) (args : List (Option En)) (ts : List TypeId) : Option En :=
  match b, args with
  | .len, [some x] => (match ts with
    | t :: _ => abQ (P.underlying t) x
    | [] => none)
  | .max, [some x, some y] => GY .max x y
  | .min, [some x, some y] => GY .min x y
  | _, _ => none

def pev (P : Program) (L : Operand → Option En) : Op → Option En
  | .move x => L x
  | .assign x => L x
  | .binOp op t x y _ => (match L x, L y with
    | some a, some b => bop P op t a b
    | _, _ => none)
  | .unOp op _ x => (match L x with
    | some a => uop op a
    | none => none)
  | .convert src dst x => (match L x with
    | some a => cnv P src dst a
    | none => none)
  | .extract x i => (match L x with
    | some (.tup l) => (match l[i]? with
      | some ⟨k, y⟩ => some (.kv k y)
      | none => none)
    | _ => none)
  | .fieldAddr s x f => (match L x with
    | some a => abL P s f a
    | none => none)
  | .nilCheck x => (match L x with
    | some a => YW a
    | none => none)
  | .field t x f => (match L x with
    | some a => Tv P t f a
    | none => none)
  | .call c => (match c.callee with
    | .builtin b => acG P b (c.args.toList.map L) c.argTypes.toList
    | _ => none)
  | _ => none

theorem size_mk (l : List UInt8) : (ByteArray.mk l.toArray).size = l.length := by simp [ByteArray.size]

section
variable {P : Program} {G : Gh} {a : Act}

theorem Az {k : IntKind} {n : Int} {v : Value} : VR G (.int k) n v ↔ v = .int k n := by simp [VR, Kd.agg, Kr]
theorem qw {b : Bool} {v : Value} : VR G .bool b v ↔ v = .bool b := by simp [VR, Kd.agg, Kr]
theorem AA {s : List UInt8} {v : Value} : VR G .str s v ↔ v = .string ⟨s.toArray⟩ := by simp [VR, Kd.agg, Kr]
theorem SA {t : Nat} {p : Option Nat} {v : Value} : VR G (.ptr t) p v ↔ ∃ u, v = .pointer u ∧ TT G t p u := by simp [VR, Kd.agg, Kr]
theorem nN {k : Kd} {xs : List k.den} {v : Value} : VR G (.list k) xs v ↔ ∃ A c, v = .slice A xs.length c ∧ xs.length ≤ c ∧ (xs = [] ∨ ∃ b off p, A = some ⟨b, off, none⟩ ∧ G.pre b = some p ∧ jQ (Kr G k) k.w xs (p.drop off)) := by
  simp [VR, Kd.agg, Kr]
theorem ZC {x y : Kd} {z : (Kd.pair x y).den} {v : Value} : VR G (.pair x y) z v ↔ ∃ cs : Array Value, v = .agg cs ∧ Kr G (.pair x y) z cs.toList := by
  simp [VR, Kd.agg]

theorem mkI {k : IntKind} {n : Int} : EnR G (.kv (.int k) n) (.int k n) := (Az (G := G)).2 rfl
theorem mkB {b : Bool} : EnR G (.kv .bool b) (.bool b) := (qw (G := G)).2 rfl
theorem mkS {s : List UInt8} : EnR G (.kv .str s) (.string ⟨s.toArray⟩) := (AA (G := G)).2 rfl
theorem unI {k : IntKind} {n : Int} {v : Value} (h : EnR G (.kv (.int k) n) v) : v = .int k n := (Az (G := G)).1 h
theorem unB {b : Bool} {v : Value} (h : EnR G (.kv .bool b) v) : v = .bool b := (qw (G := G)).1 h
theorem unS {s : List UInt8} {v : Value} (h : EnR G (.kv .str s) v) : v = .string ⟨s.toArray⟩ := (AA (G := G)).1 h
theorem unP {t : Nat} {p : Option Nat} {v : Value} (h : EnR G (.kv (.ptr t) p) v) : ∃ u, v = .pointer u ∧ TT G t p u := (SA (G := G)).1 h
theorem unL {k : Kd} {xs : List k.den} {v : Value} (h : EnR G (.kv (.list k) xs) v) : ∃ A c, v = .slice A xs.length c ∧ xs.length ≤ c ∧ (xs = [] ∨ ∃ b off p, A = some ⟨b, off, none⟩ ∧ G.pre b = some p ∧ jQ (Kr G k) k.w xs (p.drop off)) := (nN (G := G)).1 h

theorem SN (v : Value) : EnR G (OH v) v := by
  cases v <;> simp [OH, EnR, qw, Az, AA]

theorem J7 : ∀ {ctx : List (Nat × Bool)} {s : Nat} {w : Bool}, TF ctx s w = true → (s, w) ∈ ctx
  | [], _, _, h => by simp [TF] at h
  | (t, u) :: r, s, w, h => by
    unfold TF at h
    cases hb : Nat.beq t s with
    | true =>
      have ht := Nat.eq_of_beq_eq_true hb
      subst ht
      simp only [hb] at h
      cases u <;> cases w <;> simp only at h <;> first
        | exact List.mem_cons_self
        | exact List.mem_cons_of_mem _ (J7 h)
    | false => simp only [hb] at h; exact List.mem_cons_of_mem _ (J7 h)

theorem JB {ctx : List (Nat × Bool)} (hc : ∀ s w, (s, w) ∈ ctx → a.tmps.getD s Go.undef = .bool w) : ∀ {e e' : En} {v : Value}, EnA G a e v → deref ctx e = some e' → EnA G a e' v ∧ e'.plain = true
  | .cnd s w e, e', v, h, hd => by
    unfold deref at hd
    cases hb : TF ctx s w with
    | true => rw [hb] at hd; exact JB hc (h.1 (hc s w (J7 hb))) hd
    | false => rw [hb] at hd; simp at hd
  | .kv k x, e', v, h, hd => by simp [deref] at hd; subst hd; exact ⟨h, rfl⟩
  | .val u, e', v, h, hd => by simp [deref] at hd; subst hd; exact ⟨h, rfl⟩
  | .tl u k xs, e', v, h, hd => by simp [deref] at hd; subst hd; exact ⟨h, rfl⟩
  | .pl k xs, e', v, h, hd => by simp [deref] at hd; subst hd; exact ⟨h, rfl⟩
  | .lp, e', v, h, hd => by simp [deref] at hd; subst hd; exact ⟨h, rfl⟩
  | .cp k xs, e', v, h, hd => by simp [deref] at hd; subst hd; exact ⟨h, rfl⟩
  | .tup l, e', v, h, hd => by simp [deref] at hd; subst hd; exact ⟨h, rfl⟩
  | .fm t i f, e', v, h, hd => by simp [deref] at hd; subst hd; exact ⟨h, rfl⟩
  | .fldA t i o, e', v, h, hd => by simp [deref] at hd; subst hd; exact ⟨h, rfl⟩
  | .elA k x o, e', v, h, hd => by simp [deref] at hd; subst hd; exact ⟨h, rfl⟩
  | .sA u w i o, e', v, h, hd => by simp [deref] at hd; subst hd; exact ⟨h, rfl⟩
  | .clo f l, e', v, h, hd => by simp [deref] at hd; subst hd; exact ⟨h, rfl⟩
  | .bnd f k x, e', v, h, hd => by simp [deref] at hd; subst hd; exact ⟨h, rfl⟩
  | .undef, e', v, h, hd => by simp [deref] at hd; subst hd; exact ⟨h, rfl⟩

theorem dG {look : Nat → Option En} {ctx : List (Nat × Bool)} (hl : ∀ s e, look s = some e → EnA G a e (a.tmps.getD s Go.undef))
    (hc : ∀ s w, (s, w) ∈ ctx → a.tmps.getD s Go.undef = .bool w) {x : Operand} {e : En} (h : gz look ctx x = some e) : EnR G e (a.eval x) := by
  cases x with
  | tmp t =>
    simp only [gz] at h
    cases hlk : look t with
    | none => simp [hlk] at h
    | some e0 =>
      simp only [hlk] at h
      obtain ⟨h1, h2⟩ := JB hc (hl t e0 hlk) h
      exact iw h2 h1
  | const v => simp [gz] at h; subst h; exact SN v
  | global g => simp [gz] at h
  | func f => simp [gz] at h; subst h; exact ⟨[], rfl, trivial⟩
end

section
variable {P : Program} {G : Gh} {ρ : Operand → Value} {L : Operand → Option En}

def rD (P : Program) (G : Gh) (m : Sem Value) (e : En) : Prop := ∃ v, (∀ w, m.run P w = .ok v w) ∧ EnR G e v

theorem ZK {t : TypeId} {op : BinOp} {k : IntKind} {x y : Int} {e : En} (h : aa2 op k x y = some e) :
    rD P G (binOp op t (.int k x) (.int k y)) e := by
  cases op <;> simp only [aa2, Option.some.injEq, reduceCtorEq, Option.ite_none_left_eq_some] at h
  all_goals first
    | (subst h; exact ⟨_, fun w => by simp only [binOp, ne_eq, not_true_eq_false, if_false, Op.intArith]; rfl, mkI⟩)
    | (subst h; exact ⟨_, fun w => by simp only [binOp, ne_eq, not_true_eq_false, if_false, Op.intBits]; rfl, mkI⟩)
    | (subst h; exact ⟨_, fun w => by simp only [binOp, ne_eq, not_true_eq_false, if_false, Op.intCmp]; rfl, mkB⟩)

theorem ZM {t : TypeId} {op : BinOp} {x y : List UInt8} {e : En} (h : aa4 op x y = some e) :
    rD P G (binOp op t (.string ⟨x.toArray⟩) (.string ⟨y.toArray⟩)) e := by
  cases op <;> simp only [aa4, Option.some.injEq, reduceCtorEq] at h
  all_goals (subst h; exact ⟨_, fun w => by simp only [binOp, Op.stringOp, Go.ByteArray.toList_mk]; rfl, mkB⟩)

theorem bM {t : TypeId} {d : TypeDesc} (h : P.underlying t = some d) {β : Type} (k : TypeDesc → Sem β) (w : World) : (underlying t >>= k).run P w = (k d).run P w := by
  simp [underlying, h]

theorem ZJ {t : TypeId} {op : BinOp} {x y : Bool} {e : En} (h : aa1 (P.underlying t) op x y = some e) :
    rD P G (binOp op t (.bool x) (.bool y)) e := by
  unfold aa1 at h
  split at h
  · rename_i hu
    cases op <;> simp only [Option.some.injEq, reduceCtorEq] at h
    all_goals (subst h; refine ⟨_, fun w => ?_, mkB⟩; simp only [binOp, Op.equal, Op.maxDepth]; rw [show (10000 : Nat) = 9999 + 1 from rfl]; unfold Op.equalIn; simp [underlying, hu])
  · simp at h

theorem ZL {t t' : TypeId} {op : BinOp} {p : Option Nat} {u : Option Addr} {e : En} (hp : TT G t' p u) (h : aa3 (P.underlying t) op p = some e) :
    rD P G (binOp op t (.pointer u) (.pointer none)) e := by
  have hn : u.isNone = p.isNone := by
    cases p with
    | none => simp only [TT] at hp; subst hp; rfl
    | some i => obtain ⟨b, rfl, _⟩ := hp; rfl
  unfold aa3 at h
  split at h
  · rename_i hu
    cases op <;> simp only [Option.some.injEq, reduceCtorEq] at h
    all_goals
      subst h
      rw [← hn]
      refine ⟨_, fun w => ?_, mkB⟩
      cases u <;> (simp only [binOp, Op.equal, Op.maxDepth]; rw [show (10000 : Nat) = 9999 + 1 from rfl]; unfold Op.equalIn; simp [underlying, hu]; try rfl)
  · simp at h

theorem Xp {op : BinOp} {t : TypeId} {x y e : En} {u v : Value} (hx : EnR G x u) (hy : EnR G y v) (h : bop P op t x y = some e) :
    rD P G (binOp op t u v) e := by
  unfold bop at h
  split at h
  · obtain rfl := unI hx
    obtain rfl := unI hy
    split at h
    · rename_i hk; subst hk; exact ZK h
    · simp at h
  · obtain rfl := unS hx
    obtain rfl := unS hy
    exact ZM h
  · obtain rfl := unB hx
    obtain rfl := unB hy
    exact ZJ h
  · obtain ⟨u', rfl, hp⟩ := unP hx
    simp only [EnR] at hy
    subst hy
    exact ZL hp h
  · simp at h

theorem JH {op : BinOp} {t : TypeId} {x y : Operand} {u v : Value} {ex ey e : En} (hx : EnR G ex u) (hy : EnR G ey v) (h : bop P op t ex ey = some e) (w : World) {β : Type} (m : Sem β) :
    (do eqGuard op t x y u v; m).run P w = m.run P w := by
  have hu : (∀ b : Array Value, u ≠ .agg b) ∧ u ≠ .nilIface := by
    unfold bop at h
    split at h
    · obtain rfl := unI hx; simp
    · obtain rfl := unS hx; simp
    · obtain rfl := unB hx; simp
    · obtain ⟨u', rfl, hp⟩ := unP hx; simp
    · simp at h
  have : (eqGuard op t x y u v).run P w = .ok () w := by
    unfold eqGuard
    cases op <;> simp
    all_goals (split <;> first | (simp at hu; done) | simp at hu | simp)
    all_goals simp_all
  rw [show (do eqGuard op t x y u v; m) = (eqGuard op t x y u v >>= fun _ => m) from rfl, Sem.run_bind, this]; rfl

theorem ab7 {op : UnOp} {x e : En} {v : Value} (hx : EnR G x v) (h : uop op x = some e) : rD P G (Op.unary op v) e := by
  unfold uop at h
  split at h
  · obtain rfl := unB hx; simp only [Option.some.injEq] at h; subst h; exact ⟨_, fun w => rfl, mkB⟩
  · obtain rfl := unI hx; simp only [Option.some.injEq] at h; subst h; exact ⟨_, fun w => rfl, mkI⟩
  · obtain rfl := unI hx; simp only [Option.some.injEq] at h; subst h; exact ⟨_, fun w => rfl, mkI⟩
  · simp at h

theorem SL {src dst : TypeId} {x e : En} {v : Value} (hx : EnR G x v) (h : cnv P src dst x = some e) : rD P G (convert src dst v) e := by
  unfold cnv at h
  split at h
  · rename_i h1 h2
    obtain rfl := unI hx
    simp only [Option.some.injEq] at h; subst h
    refine ⟨_, fun w => ?_, mkI⟩
    unfold convert
    rw [bM h1, bM h2]
    rfl
  · rename_i h1 h2
    obtain rfl := unS hx
    simp only [Option.some.injEq] at h; subst h
    refine ⟨_, fun w => ?_, mkS⟩
    unfold convert
    rw [bM h1, bM h2]
    rfl
  · simp at h

theorem addr_add (b o n : Nat) : (⟨b, o, none⟩ : Addr).add n = ⟨b, o + n, none⟩ := by
  unfold Addr.add; split <;> simp_all

theorem run_sizeOf {t : TypeId} {n : Nat} (h : fA P t = some n) (w : World) : (sizeOf t).run P w = .ok n w := by
  unfold fA at h
  cases hi : P.info? t with
  | none => simp [hi] at h
  | some i => simp [hi] at h; simp [sizeOf, typeInfo, hi, h]

theorem wL {t : TypeId} {b : Bool} (h : AB P t = some b) (w : World) : (isAgg t).run P w = .ok b w := by
  unfold AB at h
  unfold isAgg
  cases hu : P.underlying t with
  | none => simp [hu] at h
  | some d =>
    rw [bM hu]
    cases d <;> simp_all

theorem uj {s f o b off : Nat} (h : aay P s f = some o) (w : World) :
    (Instr.fieldAt s (.pointer (some ⟨b, off, none⟩)) f).run P w = .ok (.pointer (some ⟨b, off + o, none⟩)) w := by
  unfold aay O3 at h
  split at h
  · rename_i fd hf
    split at hf
    · rename_i fs hu
      split at h
      · rename_i n hs
        simp only [Option.some.injEq] at h
        unfold Instr.fieldAt
        rw [bM hu]
        simp only [hf, Instr.sureAddr, fieldPlace, Sem.run_bind, Sem.run_pure, Result.andThen_ok, run_sizeOf hs, Nat.succ_ne_zero, if_false]
        rw [addr_add, h]
      · simp at h
    · simp at hf
  · simp at h

theorem aao {s f : Nat} {x e : En} {v : Value} (hx : EnR G x v) (h : abL P s f x = some e) : rD P G (Instr.fieldAt s v f) e := by
  unfold abL at h
  split at h
  · rename_i o ho
    split at h
    · obtain ⟨u, rfl, b, rfl, hb⟩ := unP hx
      simp only [Option.some.injEq] at h; subst h
      exact ⟨_, fun w => uj ho w, b, hb, by simp⟩
    · obtain ⟨b, hb, rfl⟩ := hx
      simp only [Option.some.injEq] at h; subst h
      exact ⟨_, fun w => uj ho w, b, hb, rfl⟩
    · obtain ⟨b, o', p, rfl, h1, h2, h3⟩ := hx
      simp only [Option.some.injEq] at h; subst h
      exact ⟨_, fun w => uj ho w, b, o', p, by rw [Nat.add_assoc], h1, h2, h3⟩
    · obtain ⟨b, o', n, c, hu, rfl⟩ := hx
      simp only [Option.some.injEq] at h; subst h
      exact ⟨_, fun w => uj ho w, b, o', n, c, hu, by rw [Nat.add_assoc]⟩
    · simp only [EnR] at hx; subst hx
      simp only [Option.some.injEq] at h; subst h
      exact ⟨_, fun w => uj ho w, rfl⟩
    · simp at h
  · simp at h

theorem Py {x e : En} {v : Value} (hx : EnR G x v) (h : YW x = some e) : EnR G e v ∧ ((∃ a, v = .pointer (some a)) ∨ ∃ f b c, v = .func (.func f) b c) := by
  unfold YW at h
  split at h
  · simp only [Option.some.injEq] at h; subst h
    refine ⟨hx, .inl ?_⟩
    obtain ⟨b, hb, rfl⟩ := hx
    exact ⟨_, rfl⟩
  · simp only [Option.some.injEq] at h; subst h
    refine ⟨hx, .inl ?_⟩
    obtain ⟨b, o', p, rfl, h1, h2, h3⟩ := hx
    exact ⟨_, rfl⟩
  · simp only [Option.some.injEq] at h; subst h
    refine ⟨hx, .inl ?_⟩
    obtain ⟨b, o', n, c, hu, rfl⟩ := hx
    exact ⟨_, rfl⟩
  · simp only [Option.some.injEq] at h; subst h
    exact ⟨hx, .inl ⟨_, hx⟩⟩
  · simp only [Option.some.injEq] at h; subst h
    exact ⟨hx, .inr ⟨_, _, _, hx⟩⟩
  · simp at h

theorem aas {ts : Array TypeId} {rt : TypeId} {t : TypeId} {x e : En} {v : Value} (ht : ts[0]? = some t) (hx : EnR G x v) (h : abQ (P.underlying t) x = some e) :
    rD P G (Builtin.len_ ts rt #[v]) e := by
  unfold abQ at h
  split at h
  · rename_i hu
    obtain rfl := unS hx
    simp only [Option.some.injEq] at h; subst h
    refine ⟨_, fun w => ?_, mkI⟩
    unfold Builtin.len_
    simp only [ht, List.getElem?_toArray, List.getElem?_cons_zero]
    rw [bM hu]
    simp only [size_mk]; rfl
  · rename_i hu
    obtain ⟨A, c, rfl, _⟩ := unL hx
    simp only [Option.some.injEq] at h; subst h
    refine ⟨_, fun w => ?_, mkI⟩
    unfold Builtin.len_
    simp only [ht, List.getElem?_toArray, List.getElem?_cons_zero]
    rw [bM hu]
    rfl
  · rename_i hu
    obtain ⟨b, c, e', n, rfl, _⟩ := hx
    simp only [Option.some.injEq] at h; subst h
    refine ⟨_, fun w => ?_, mkI⟩
    unfold Builtin.len_
    simp only [ht, List.getElem?_toArray, List.getElem?_cons_zero]
    rw [bM hu]
    rfl
  · rename_i hu
    obtain ⟨rfl, hx⟩ := hx
    obtain ⟨A, c, rfl, _⟩ := nN.1 hx
    simp only [Option.some.injEq] at h; subst h
    refine ⟨_, fun w => ?_, mkI⟩
    unfold Builtin.len_
    simp only [ht, List.getElem?_toArray, List.getElem?_cons_zero]
    rw [bM hu]
    rfl
  · rename_i hu
    simp only [EnR] at hx; subst hx
    simp only [Option.some.injEq] at h; subst h
    refine ⟨_, fun w => ?_, mkI⟩
    unfold Builtin.len_
    simp only [ht, List.getElem?_toArray, List.getElem?_cons_zero]
    rw [bM hu]
    rfl
  · simp at h

theorem abS {ts : Array TypeId} {rt : TypeId} {x y e : En} {u v : Value} (hx : EnR G x u) (hy : EnR G y v) (h : GY .max x y = some e) :
    rD P G (Builtin.max_ ts rt #[u, v]) e := by
  unfold GY at h
  split at h
  · obtain rfl := unI hx
    obtain rfl := unI hy
    simp only [Option.some.injEq] at h; subst h
    exact ⟨_, fun w => by simp [Builtin.max_, Builtin.max2], mkI⟩
  · simp at *
  · simp at h

theorem abU {ts : Array TypeId} {rt : TypeId} {x y e : En} {u v : Value} (hx : EnR G x u) (hy : EnR G y v) (h : GY .min x y = some e) :
    rD P G (Builtin.min_ ts rt #[u, v]) e := by
  unfold GY at h
  split at h
  · simp at *
  · obtain rfl := unI hx
    obtain rfl := unI hy
    simp only [Option.some.injEq] at h; subst h
    exact ⟨_, fun w => by simp [Builtin.min_, Builtin.min2], mkI⟩
  · simp at h

theorem UW : ∀ {k : Kd} {x : k.den} {f o : Nat} {r : KV} {cs : List Value}, Iy k x f = some (o, r) → Kr G k x cs →
    o + r.k.w ≤ cs.length ∧ Kr G r.k r.x ((cs.drop o).take r.k.w)
  | .pair a b, x, 0, o, r, cs, h, hk => by
    simp only [Iy, Option.some.injEq, Prod.mk.injEq] at h
    obtain ⟨rfl, rfl⟩ := h
    simp only [Kr] at hk
    obtain ⟨c1, c2, rfl, h1, h2⟩ := hk
    have hl := iM h1
    refine ⟨by simp [hl], ?_⟩
    simp only [List.drop_zero]
    rw [List.take_append_of_le_length (by omega), List.take_of_length_le (by omega)]
    exact h1
  | .pair a b, x, f + 1, o, r, cs, h, hk => by
    simp only [Iy] at h
    cases hf : Iy b x.2 f with
    | none => simp [hf] at h
    | some q =>
      obtain ⟨o', r'⟩ := q
      simp only [hf, Option.some.injEq, Prod.mk.injEq] at h
      obtain ⟨rfl, rfl⟩ := h
      simp only [Kr] at hk
      obtain ⟨c1, c2, rfl, h1, h2⟩ := hk
      obtain ⟨h3, h4⟩ := UW hf h2
      have hl := iM h1
      refine ⟨by simp; omega, ?_⟩
      rw [← hl, List.drop_append, List.drop_of_length_le (by omega)]
      simpa using h4
  | .unit, _, _, _, _, _, h, _ => by simp [Iy] at h
  | .int _, _, _, _, _, _, h, _ => by simp [Iy] at h
  | .bool, _, _, _, _, _, h, _ => by simp [Iy] at h
  | .str, _, _, _, _, _, h, _ => by simp [Iy] at h
  | .ptr _, _, _, _, _, _, h, _ => by simp [Iy] at h
  | .list _, _, _, _, _, _, h, _ => by simp [Iy] at h

theorem Oz {k : Kd} {x : k.den} {cs : List Value} (h : Kr G k x cs) (hk : k.agg = false) : ∃ v, cs = [v] ∧ VR G k x v := by
  have hl := iM h
  cases k <;> simp [Kd.agg] at hk <;> simp only [Kd.w] at hl
  all_goals
    match cs, hl with
    | [v], _ => exact ⟨v, rfl, by simpa [VR, Kd.agg] using h⟩

theorem aaC {t : TypeId} {k : Kd} {x : k.den} {cs : Array Value} {o : Nat} (h1 : fA P t = some k.w) (h2 : AB P t = some k.agg) (hl : o + k.w ≤ cs.size)
    (hk : Kr G k x ((cs.toList.drop o).take k.w)) : rD P G (part t cs o) (.kv k x) := by
  cases ha : k.agg with
  | true =>
    rw [ha] at h2
    refine ⟨.agg (cs.extract o (o + k.w)), fun w => by simp [part, wL h2, run_sizeOf h1], ?_⟩
    show VR G k x _
    simp only [VR, ha]
    refine ⟨_, rfl, ?_⟩
    rw [Array.toList_extract]
    simpa [List.extract_eq_take_drop] using hk
  | false =>
    rw [ha] at h2
    obtain ⟨v, hv, hr⟩ := Oz hk ha
    refine ⟨v, fun w => ?_, hr⟩
    have hw : k.w = 1 := by have := iM hk; rw [hv] at this; simpa using this.symm
    have hg : cs[o]? = some v := by
      rw [hw] at hv
      have : (cs.toList.drop o).take 1 = [v] := hv
      rw [← Array.getElem?_toList]
      have h3 : ((cs.toList.drop o).take 1)[0]? = some v := by rw [this]; rfl
      simpa using h3
    simp [part, wL h2, hg]

theorem VZ {t f : Nat} {x e : En} {v : Value} (hx : EnR G x v) (h : Tv P t f x = some e) : rD P G (Instr.field t v f) e := by
  unfold Tv at h
  split at h
  · rename_i a b y fd hf
    split at h
    · rename_i o k z hk
      split at h
      · rename_i hc
        obtain ⟨h1, h2, h3⟩ := hc
        simp only [Option.some.injEq] at h; subst h
        obtain ⟨cs, rfl, hr⟩ := ZC.1 hx
        obtain ⟨h4, h5⟩ := UW hk hr
        unfold O3 at hf
        split at hf
        · rename_i fs hu
          obtain ⟨u, hr, he⟩ := aaC (P := P) (cs := cs) h2 h3 (by simpa using h4) h5
          refine ⟨u, fun w => ?_, he⟩
          unfold Instr.field
          rw [bM hu]
          simp [hf, asAgg, ← h1, hr]
        · simp at hf
      · simp at h
    · simp at h
  · simp at h

theorem He (m : Sem Value) {v : Value} {w : World} (h : m.run P w = .ok v w) : (do pure (Next.value (← m)) : Sem Next).run P w = .ok (.value v) w := by
  simp [h]

theorem xN {m : Sem Value} {e : En} (h : rD P G m e) : ∃ v, (∀ w, (do pure (Next.value (← m)) : Sem Next).run P w = .ok (.value v) w) ∧ EnR G e v :=
  let ⟨v, h1, h2⟩ := h
  ⟨v, fun w => He m (h1 w), h2⟩

theorem TS (hL : ∀ x e, L x = some e → EnR G e (ρ x)) {o : Oper} {e : En} (h : pev P L o.op = some e) :
    ∃ v, (∀ w, (execOp ρ o).run P w = .ok (.value v) w) ∧ EnR G e v := by
  unfold pev at h
  split at h
  · rename_i x hop; exact ⟨ρ x, fun w => by simp [execOp, hop], hL x e h⟩
  · rename_i x hop; exact ⟨ρ x, fun w => by simp [execOp, hop], hL x e h⟩
  · rename_i op t x y ty hop
    split at h
    · rename_i ex ey hx hy
      obtain ⟨v, h1, h2⟩ := Xp (hL _ _ hx) (hL _ _ hy) h
      refine ⟨v, fun w => ?_, h2⟩
      simp only [execOp, hop]
      refine He _ ?_
      rw [JH (hL _ _ hx) (hL _ _ hy) h]
      exact h1 w
    · simp at h
  · rename_i op t x hop
    split at h
    · rename_i ex hx
      simp only [execOp, hop]
      exact xN (ab7 (hL _ _ hx) h)
    · simp at h
  · rename_i src dst x hop
    split at h
    · rename_i ex hx
      simp only [execOp, hop]
      exact xN (SL (hL _ _ hx) h)
    · simp at h
  · rename_i x i hop
    split at h
    · rename_i l hx
      split at h
      · rename_i k y hy
        simp only [Option.some.injEq] at h; subst h
        obtain ⟨vs, hv, hf⟩ := hL _ _ hx
        obtain ⟨u, hu, hr⟩ := cO.get hf hy
        simp only [execOp, hop, hv]
        refine ⟨u, fun w => He _ ?_, hr⟩
        have : vs[i]? = some u := by simpa using hu
        simp [Instr.extract, this]
      · simp at h
    · simp at h
  · rename_i s x f hop
    split at h
    · rename_i ex hx
      simp only [execOp, hop]
      exact xN (aao (hL _ _ hx) h)
    · simp at h
  · rename_i x hop
    split at h
    · rename_i ex hx
      obtain ⟨h1, h2⟩ := Py (hL _ _ hx) h
      refine ⟨ρ x, fun w => ?_, h1⟩
      rcases h2 with ⟨a, ha⟩ | ⟨f, b, c, ha⟩ <;> simp [execOp, hop, ha]
    · simp at h
  · rename_i t x f hop
    split at h
    · rename_i ex hx
      simp only [execOp, hop]
      exact xN (VZ (hL _ _ hx) h)
    · simp at h
  · rename_i c hop
    split at h
    · rename_i b hb
      unfold acG at h
      split at h
      · rename_i x hargs
        split at h
        · rename_i t ts hts
          obtain ⟨x0, hx0⟩ : ∃ x0, c.args.toList = [x0] := by
            match hq : c.args.toList with
            | [x0] => exact ⟨x0, rfl⟩
            | [] => rw [hq] at hargs; simp at hargs
            | _ :: _ :: _ => rw [hq] at hargs; simp at hargs
          rw [hx0] at hargs
          simp only [List.map_cons, List.map_nil, List.cons.injEq, and_true] at hargs
          have hca : c.args = #[x0] := by rw [← Array.toArray_toList (xs := c.args), hx0]
          have ht0 : c.argTypes[0]? = some t := by rw [← Array.getElem?_toList, hts]; rfl
          obtain ⟨v, h1, h2⟩ := aas (P := P) (rt := o.type) ht0 (hL _ _ hargs) h
          refine ⟨v, fun w => ?_, h2⟩
          simp only [execOp, hop, resolve, hb, hca]
          simp [invoke, builtin, h1 w]
        · simp at h
      · rename_i x y hargs
        obtain ⟨x0, y0, hx0⟩ : ∃ x0 y0, c.args.toList = [x0, y0] := by
          match hq : c.args.toList with
          | [x0, y0] => exact ⟨x0, y0, rfl⟩
          | [] => rw [hq] at hargs; simp at hargs
          | [_] => rw [hq] at hargs; simp at hargs
          | _ :: _ :: _ :: _ => rw [hq] at hargs; simp at hargs
        rw [hx0] at hargs
        simp only [List.map_cons, List.map_nil, List.cons.injEq, and_true] at hargs
        have hca : c.args = #[x0, y0] := by rw [← Array.toArray_toList (xs := c.args), hx0]
        obtain ⟨v, h1, h2⟩ := abS (P := P) (ts := c.argTypes) (rt := o.type) (hL _ _ hargs.1) (hL _ _ hargs.2) h
        refine ⟨v, fun w => ?_, h2⟩
        simp only [execOp, hop, resolve, hb, hca]
        simp [invoke, builtin, h1 w]
      · rename_i x y hargs
        obtain ⟨x0, y0, hx0⟩ : ∃ x0 y0, c.args.toList = [x0, y0] := by
          match hq : c.args.toList with
          | [x0, y0] => exact ⟨x0, y0, rfl⟩
          | [] => rw [hq] at hargs; simp at hargs
          | [_] => rw [hq] at hargs; simp at hargs
          | _ :: _ :: _ :: _ => rw [hq] at hargs; simp at hargs
        rw [hx0] at hargs
        simp only [List.map_cons, List.map_nil, List.cons.injEq, and_true] at hargs
        have hca : c.args = #[x0, y0] := by rw [← Array.toArray_toList (xs := c.args), hx0]
        obtain ⟨v, h1, h2⟩ := abU (P := P) (ts := c.argTypes) (rt := o.type) (hL _ _ hargs.1) (hL _ _ hargs.2) h
        refine ⟨v, fun w => ?_, h2⟩
        simp only [execOp, hop, resolve, hb, hca]
        simp [invoke, builtin, h1 w]
      · simp at h
    · simp at h
  · simp at h
end
end Go.Proofs.YtbnmhjobnepajaaGreat.M


namespace Go.Proofs.YtbnmhjobnepajaaGreat.M

def look (E cur : Env) (s : Nat) : Option En :=
  match lk cur s with
  | some e => some e
  | none => lk E s

def chain (L : Nat → Option En) : Nat → Nat → Bool → List (Nat × Bool)
  | 0, s, w => [(s, w)]
  | n + 1, s, w => (s, w) :: (match L s with
    | some (.cnd s' w' _) => chain L n s' w'
    | _ => [])

def aah (L : Nat → Option En) (ctx : List (Nat × Bool)) (c : Operand) (w : Bool) : List (Nat × Bool) :=
  match c with
  | .tmp s => chain L 6 s w ++ ctx
  | _ => ctx

def TR (P : Program) (L : Nat → Option En) (ctx : List (Nat × Bool)) (op : Op) : Option En :=
  match op with
  | .pick c x y => (match gz L ctx c with
    | some (.kv .bool b) => (match gz L (aah L ctx c true) x, gz L (aah L ctx c false) y with
      | some (.kv .bool u), some (.kv .bool v) => some (.kv .bool (cond b u v))
      | some (.kv .bool u), _ => (match b with
        | true => some (.kv .bool u)
        | false => none)
      | _, some (.kv .bool v) => (match b with
        | false => some (.kv .bool v)
        | true => none)
      | _, _ => none)
    | _ => none)
  | op => pev P (gz L ctx) op

def uf (d : Nat) : Env → Bool
  | [] => true
  | (_, .cnd s _ e) :: r => (match Nat.beq s d with
    | true => false
    | false => noCndE d e && uf d r)
  | _ :: r => uf d r
  where
  noCndE (d : Nat) : En → Bool
  | .cnd s _ e => (match Nat.beq s d with
    | true => false
    | false => noCndE d e)
  | _ => true

def rsv (L : Nat → Option En) : En → Option En
  | .cnd s w e => (match L s with
    | some (.kv .bool b) => (match b, w with
      | true, true => rsv L e
      | false, false => rsv L e
      | _, _ => some .undef)
    | some .undef => some .undef
    | _ => none)
  | e => some e

def V4 : List Nat → Nat → Bool
  | [], _ => false
  | s :: r, t => (match Nat.beq s t with
    | true => true
    | false => V4 r t)

def stale (E : Env) (sl : List Nat) : Env → Bool
  | [] => true
  | (s, _) :: r => (match V4 sl s with
    | true => stale E sl r
    | false => (match lk E s with
      | none => stale E sl r
      | some _ => false))

def Ih (L : Nat → Option En) : List Nat → Option Env
  | [] => some []
  | s :: r => (match L s with
    | some e => (match rsv L e with
      | some e' => (match Ih L r with
        | some D => some ((s, e') :: D)
        | none => none)
      | none => none)
    | none => none)

def acr : Env → List Nat
  | [] => []
  | (s, _) :: r => s :: acr r

section
variable {P : Program} {G : Gh} {a : Act} {N : Nat} {E cur : Env} {ops : Array Oper} {Q : Exit → Act → World → Prop} {w : World}

def vg (G : Gh) (a : Act) (L : Nat → Option En) : Prop := ∀ s e, L s = some e → EnA G a e (a.tmps.getD s Go.undef)

theorem wR {L : Nat → Option En} (hL : vg G a L) : ∀ {n s : Nat} {w : Bool}, a.tmps.getD s Go.undef = .bool w → ∀ t u, (t, u) ∈ chain L n s w → a.tmps.getD t Go.undef = .bool u
  | 0, s, w, h, t, u, hm => by simp [chain] at hm; obtain ⟨rfl, rfl⟩ := hm; exact h
  | n + 1, s, w, h, t, u, hm => by
    simp only [chain, List.mem_cons, Prod.mk.injEq] at hm
    rcases hm with ⟨rfl, rfl⟩ | hm
    · exact h
    · split at hm
      · rename_i s' w' e hs
        have he := hL _ _ hs
        have h' : a.tmps.getD s' Go.undef = .bool w' := by
          by_cases hc : a.tmps.getD s' Go.undef = .bool w'
          · exact hc
          · have := he.2 hc
            rw [h] at this
            simp [Go.undef] at this
        exact wR hL h' t u hm
      · simp at hm

theorem IU {L : Nat → Option En} (hL : vg G a L) {ctx : List (Nat × Bool)} (hc : ∀ s w, (s, w) ∈ ctx → a.tmps.getD s Go.undef = .bool w) {c : Operand} {w : Bool}
    (h : a.eval c = .bool w) : ∀ s u, (s, u) ∈ aah L ctx c w → a.tmps.getD s Go.undef = .bool u := by
  intro s u hm
  unfold aah at hm
  split at hm
  · rename_i t
    rcases List.mem_append.1 hm with hm | hm
    · exact wR hL h s u hm
    · exact hc s u hm
  · exact hc s u hm

theorem FW {L : Nat → Option En} (hL : vg G a L) {ctx : List (Nat × Bool)} (hc : ∀ s w, (s, w) ∈ ctx → a.tmps.getD s Go.undef = .bool w) {o : Oper} {e : En} (h : TR P L ctx o.op = some e) :
    ∃ v, (∀ w, (execOp a.eval o).run P w = .ok (.value v) w) ∧ EnR G e v := by
  unfold TR at h
  split at h
  · rename_i c x y hop
    split at h
    · rename_i b hb
      split at h
      · rename_i u v hu hv
        simp only [Option.some.injEq] at h; subst h
        have hcb := unB (dG hL hc hb)
        refine ⟨.bool (cond b u v), fun w => ?_, mkB⟩
        cases b with
        | true =>
          have := unB (dG hL (IU hL hc hcb) hu)
          simp [execOp, hop, hcb, this, asBool]
        | false =>
          have := unB (dG hL (IU hL hc hcb) hv)
          simp [execOp, hop, hcb, this, asBool]
      · rename_i u hu _
        have hcb := unB (dG hL hc hb)
        split at h
        · simp only [Option.some.injEq] at h; subst h
          have := unB (dG hL (IU hL hc hcb) hu)
          exact ⟨.bool u, fun w => by simp [execOp, hop, hcb, this, asBool], mkB⟩
        · simp at h
      · rename_i v hv _
        have hcb := unB (dG hL hc hb)
        split at h
        · simp only [Option.some.injEq] at h; subst h
          have := unB (dG hL (IU hL hc hcb) hv)
          exact ⟨.bool v, fun w => by simp [execOp, hop, hcb, this, asBool], mkB⟩
        · simp at h
      · simp at h
    · simp at h
  · exact TS (fun x e hx => dG hL hc hx) h

theorem iG {j : Nat} {sj : Nat} (hj : (ops[j]?).bind (·.dst) = some sj) (want : Bool) : (yielded ops a.tmps j == some want) = true ↔ a.tmps.getD sj Go.undef = .bool want := by
  unfold yielded
  rw [hj]
  simp only [Option.bind_some, Array.getD_eq_getD_getElem?]
  cases h : a.tmps[sj]? with
  | none => simp [Go.undef]
  | some v => cases v <;> simp [Go.undef]

theorem IP {e : En} {v : Value} {d : Nat} {u : Value} (hn : uf.noCndE d e = true) (hd : d < a.tmps.size) (h : EnA G a e v) : EnA G (a.put (some d) u) e v := by
  induction e generalizing v with
  | cnd s w e ih =>
    unfold uf.noCndE at hn
    split at hn
    · simp at hn
    · rename_i hb
      have hne := Nat.ne_of_beq_eq_false hb
      refine ⟨fun h1 => ?_, fun h1 => ?_⟩
      · rw [sG hd, if_neg hne] at h1
        exact ih hn (h.1 h1)
      · rw [sG hd, if_neg hne] at h1
        exact h.2 h1
  | _ => exact h

theorem KH : ∀ {cur : Env} {d s : Nat} {e : En}, uf d cur = true → lk cur s = some e → uf.noCndE d e = true
  | [], _, _, _, _, h => by simp [lk] at h
  | (t, e') :: r, d, s, e, hn, h => by
    rw [dP] at h
    have h1 : uf.noCndE d e' = true ∧ uf d r = true := by
      cases e' <;> simp only [uf, uf.noCndE] at hn ⊢ <;> try exact ⟨trivial, hn⟩
      all_goals first
        | exact ⟨rfl, hn⟩
        | (split at hn
           · simp at hn
           · rename_i hb; simpa using hn)
    split at h
    · simp at h; subst h; exact h1.1
    · exact KH h1.2 h

theorem YG {d : Nat} {e : En} (s : Nat) : look E ((d, e) :: cur) s = if d = s then some e else look E cur s := by
  unfold look
  rw [dP]
  by_cases h : d = s <;> simp [h]

theorem Jk (hN : a.tmps.size = N) (hE : ∀ s e, lk E s = some e → e.plain = true) (hL : vg G a (look E cur)) {d : Nat} {e : En} {v : Value}
    (hd : (Nat.blt d N && (uf d cur && uf.noCndE d e)) = true) (hv : EnA G a e v) : vg G (a.put (some d) v) (look E ((d, e) :: cur)) := by
  simp only [Bool.and_eq_true] at hd
  obtain ⟨hd0, hd2, hd3⟩ := hd
  have hd1 : d < a.tmps.size := by rw [hN]; exact Nat.le_of_ble_eq_true hd0
  intro s e' hs
  rw [YG] at hs
  rw [sG hd1]
  by_cases h : d = s
  · subst h
    simp at hs; subst hs
    simpa using IP hd3 hd1 hv
  · rw [if_neg h] at hs
    rw [if_neg (Ne.symm h)]
    have := hL s e' hs
    unfold look at hs
    split at hs
    · rename_i e'' he
      simp at hs; subst hs
      exact IP (KH hd2 he) hd1 this
    · have hp := hE s e' hs
      refine IP ?_ hd1 this
      cases e' <;> first | rfl | simp [En.plain] at hp

def ed (P : Program) (ops : Array Oper) (Q : Exit → Act → World → Prop) (i : Nat) (a : Act) (w : World) : Prop := wpList P ops Q (ops.toList.drop i) a w

theorem oP {i : Nat} {o : Oper} (ho : ops[i]? = some o) : ed P ops Q i a w =
    (if Region.wanted o (yielded ops a.tmps) then o.wp P a w (ed P ops Q (i + 1)) Q ∨ (o.asks P a w ∧ LetsOut Q) else ed P ops Q (i + 1) (a.put o.dst undef) w) := by
  have h : ops.toList.drop i = o :: ops.toList.drop (i + 1) := by
    have h1 : ops.toList[i]? = some o := by simpa using ho
    obtain ⟨hlt, hget⟩ := List.getElem?_eq_some_iff.1 h1
    rw [List.drop_eq_getElem_cons hlt, hget]
  unfold ed
  rw [h]
  rfl

theorem aP {i : Nat} (h : ops[i]? = none) (hq : Q .normal a w) : ed P ops Q i a w := by
  have : ops.toList.drop i = [] := by
    rw [List.drop_eq_nil_iff]
    rw [Array.getElem?_eq_none_iff] at h
    simpa using h
  unfold ed
  rw [this]
  exact hq

theorem aC {id : Nat} (h : ed P ops Q 0 a w) : (Code.region id ops false).wp P Q a w := wp_region_list h

theorem pJ {i : Nat} {o : Oper} (ho : ops[i]? = some o) (hw : Region.wanted o (yielded ops a.tmps) = true) {v : Value} {w' : World}
    (hr : (execOp a.eval o).run P w = .ok (.value v) w') (h : ed P ops Q (i + 1) (a.put o.dst v) w') : ed P ops Q i a w := by
  rw [oP ho, if_pos hw]
  refine .inl ?_
  unfold Oper.wp
  rw [hr]
  exact h

theorem Ha {L : Nat → Option En} (hL : vg G a L) : ∀ {e e' : En} {v : Value}, EnA G a e v → rsv L e = some e' → EnR G e' v
  | .cnd s w e, e', v, h, hr => by
    unfold rsv at hr
    split at hr
    · rename_i b hb
      have hs := unB (iw (by rfl) (hL _ _ hb))
      split at hr
      · exact Ha hL (h.1 hs) hr
      · exact Ha hL (h.1 hs) hr
      · rename_i n1 n2
        simp only [Option.some.injEq] at hr; subst hr
        refine h.2 ?_
        rw [hs]
        intro hc
        simp only [Value.bool.injEq] at hc
        subst hc
        cases b with
        | true => exact n1 rfl rfl
        | false => exact n2 rfl rfl
    · rename_i hb
      have hs : a.tmps.getD s Go.undef = Go.undef := iw (by rfl) (hL _ _ hb)
      simp only [Option.some.injEq] at hr; subst hr
      exact h.2 (by rw [hs]; simp [Go.undef])
    · simp at hr
  | .kv k x, e', v, h, hr => by simp [rsv] at hr; subst hr; exact h
  | .val u, e', v, h, hr => by simp [rsv] at hr; subst hr; exact h
  | .tl u k xs, e', v, h, hr => by simp [rsv] at hr; subst hr; exact h
  | .pl k xs, e', v, h, hr => by simp [rsv] at hr; subst hr; exact h
  | .lp, e', v, h, hr => by simp [rsv] at hr; subst hr; exact h
  | .cp k xs, e', v, h, hr => by simp [rsv] at hr; subst hr; exact h
  | .tup l, e', v, h, hr => by simp [rsv] at hr; subst hr; exact h
  | .fm t i f, e', v, h, hr => by simp [rsv] at hr; subst hr; exact h
  | .fldA t i o, e', v, h, hr => by simp [rsv] at hr; subst hr; exact h
  | .elA k x o, e', v, h, hr => by simp [rsv] at hr; subst hr; exact h
  | .sA u w i o, e', v, h, hr => by simp [rsv] at hr; subst hr; exact h
  | .clo f l, e', v, h, hr => by simp [rsv] at hr; subst hr; exact h
  | .bnd f k x, e', v, h, hr => by simp [rsv] at hr; subst hr; exact h
  | .undef, e', v, h, hr => by simp [rsv] at hr; subst hr; exact h

theorem Q7 {L : Nat → Option En} (hL : vg G a L) : ∀ {sl : List Nat} {D : Env}, Ih L sl = some D → ∀ s e, lk D s = some e → EnR G e (a.tmps.getD s Go.undef)
  | [], D, h, s, e, hs => by simp [Ih] at h; subst h; simp [lk] at hs
  | t :: r, D, h, s, e, hs => by
    unfold Ih at h
    split at h
    · rename_i e0 h0
      split at h
      · rename_i e1 h1
        split at h
        · rename_i D' hD
          simp only [Option.some.injEq] at h; subst h
          rw [dP] at hs
          by_cases ht : t = s
          · subst ht
            simp at hs; subst hs
            exact Ha hL (hL _ _ h0) h1
          · rw [if_neg ht] at hs
            exact Q7 hL hD s e hs
        · simp at h
      · simp at h
    · simp at h

theorem NQ {L : Nat → Option En} : ∀ {sl : List Nat} {D : Env}, Ih L sl = some D → ∀ s, V4 sl s = true → ∃ e, lk D s = some e
  | [], D, h, s, hs => by simp [V4] at hs
  | t :: r, D, h, s, hs => by
    unfold Ih at h
    split at h
    · split at h
      · split at h
        · rename_i D' hD
          simp only [Option.some.injEq] at h; subst h
          by_cases ht : t = s
          · subst ht; exact ⟨_, by rw [dP]; simp; rfl⟩
          · unfold V4 at hs
            split at hs
            · rename_i hb; exact (ht (Nat.eq_of_beq_eq_true hb)).elim
            · obtain ⟨e, he⟩ := NQ hD s hs
              exact ⟨e, by rw [dP, if_neg ht]; exact he⟩
        · simp at h
      · simp at h
    · simp at h

theorem RF {E : Env} {sl : List Nat} : ∀ {cur : Env}, stale E sl cur = true → ∀ s e, lk cur s = some e → V4 sl s = true ∨ lk E s = none
  | [], _, s, e, h => by simp [lk] at h
  | (t, e0) :: r, hst, s, e, h => by
    rw [dP] at h
    unfold stale at hst
    by_cases ht : t = s
    · subst ht
      split at hst
      · rename_i hh; exact .inl hh
      · split at hst
        · rename_i hn; exact .inr hn
        · simp at hst
    · rw [if_neg ht] at h
      have : stale E sl r = true := by
        split at hst
        · exact hst
        · split at hst
          · exact hst
          · simp at hst
      exact RF this s e h

theorem dD.plain (hE : dD G N a E) : ∀ s e, lk E s = some e → e.plain = true := by
  intro s e h
  have := hE.2.2 s e h
  cases e <;> first | rfl | exact this.elim

theorem dD.re (hE : dD G N a E) (s : Nat) {e e' : En} (h : lk E s = some e) (he : e = e') : dD G N a ((s, e') :: E) := by
  refine ⟨hE.1, hE.2.1, fun t e2 ht => ?_⟩
  rw [dP] at ht
  by_cases hst : s = t
  · subst hst; simp at ht; subst ht; subst he; exact hE.2.2 s _ h
  · rw [if_neg hst] at ht; exact hE.2.2 t _ ht

end
end Go.Proofs.YtbnmhjobnepajaaGreat.M


namespace Go.Proofs.YtbnmhjobnepajaaGreat.M

inductive Fk where
  | p (k : Kd)
  | own (e bt : Nat) (k : Kd)
  | omap (kk kv : Kd)

@[reducible] def Fk.den : Fk → Type
  | .p k => k.den
  | .own _ _ k => List k.den
  | .omap kk kv => List (kk.den × kv.den)

def Fk.w : Fk → Nat
  | .p k => k.w
  | _ => 1

@[reducible] def az : List Fk → Type
  | [] => Unit
  | f :: r => f.den × az r

structure Tab where
  fs : List Fk
  xs : List (az fs)

abbrev Tabs := Nat → Option Tab

inductive LS where
  | tk (v : Value) (e bt : Nat) (k : Kd) (xs : List k.den)
  | arr (v : Value) (k : Kd) (xs : List k.den)
  | box (b : Nat) (k : Kd) (x : k.den)
  | mp (r : Nat) (kk kv : Kd) (m : List (kk.den × kv.den))
  | hole (t i f : Nat) (v : Value)
  | iter (r : Nat) (o : Obj)
  | raw (v : Value) (e bt : Nat) (k : Kd) (xs : List k.den)
  | sby (v : Value) (e : Nat) (xs : List Int)

def LS.blk : LS → Option Nat
  | .tk v _ _ _ _ => v.ownBlock
  | .arr v _ _ => v.ownBlock
  | .box b _ _ => some b
  | .mp r _ _ _ => some r
  | .hole _ _ _ _ => none
  | .iter r _ => some r
  | .raw v _ _ _ _ => v.ownBlock
  | .sby v _ _ => v.ownBlock

def MJ (_v : Value) (_bt : Nat) : Prop := True

def IL (G : Gh) (w : World) (o : Own) (e bt : Nat) (k : Kd) (xs : List k.den) (v : Value) : Prop :=
  ∃ cs, w.ownsRow 0 e k.w v xs.length cs ∧ jQ (Kr G k) k.w xs cs ∧ MJ v bt ∧ ∀ b, v.ownBlock = some b → G.role b = .grow o cs

def TL (G : Gh) (kk kv : Kd) (m : List (kk.den × kv.den)) (es : List MapEntry) : Prop :=
  cO (fun (p : kk.den × kv.den) (e : MapEntry) => VR G kk p.1 e.key ∧ VR G kv p.2 e.val) m es

def yz (G : Gh) (kk kv : Kd) (m : List (kk.den × kv.den)) (es : List MapEntry) (cl : Nat) : Prop :=
  TL G kk kv m es ∧ (∀ e ∈ es, e.born < cl) ∧ (es.map (·.born)).Nodup

def FkR (w : World) (G : Gh) (hl : Option Value) (t i f : Nat) : (fk : Fk) → fk.den → List Value → Prop
  | .p k, x, cs => Kr G k x cs
  | .own e bt k, xs, cs => match hl with
    | some v => cs = [v]
    | none => ∃ v, cs = [v] ∧ IL G w (.fld t i f) e bt k xs v
  | .omap kk kv, m, cs => ∃ r es cl, cs = [.map (some r)] ∧ G.role r = .fld t i f ∧ w.heap[r]? = some (.map es cl) ∧ yz G kk kv m es.toList cl

def aK (t i f : Nat) : List LS → Option Value
  | [] => none
  | .hole t' i' f' v :: r => if t' = t ∧ i' = i ∧ f' = f then some v else aK t i f r
  | _ :: r => aK t i f r

def pR (w : World) (G : Gh) (L : List LS) (t i : Nat) : (f : Nat) → (fs : List Fk) → az fs → List Value → Prop
  | _, [], _, cs => cs = []
  | f, fk :: r, x, cs => ∃ c1 c2, cs = c1 ++ c2 ∧ FkR w G (aK t i f L) t i f fk x.1 c1 ∧ pR w G L t i (f + 1) r x.2 c2

def LSR (w : World) (G : Gh) : LS → Prop
  | .tk v e bt k xs => IL G w .loc e bt k xs v
  | .arr v k xs => ∃ b off c ce ty, v = .slice (some ⟨b, off, none⟩) xs.length c ∧ G.role b = .loc ∧ w.heap[b]? = some (.cells ce ty (0, 0)) ∧ xs.length ≤ c ∧ off + c * k.w ≤ ce.size ∧ jQ (Kr G k) k.w xs (ce.toList.drop off)
  | .box b k x => G.role b = .loc ∧ ∃ ce ty, w.heap[b]? = some (.cells ce ty (0, 0)) ∧ Kr G k x ce.toList
  | .mp r kk kv m => G.role r = .loc ∧ ∃ es cl, w.heap[r]? = some (.map es cl) ∧ yz G kk kv m es.toList cl
  | .hole _ _ _ _ => True
  | .iter r o => G.role r = .loc ∧ w.heap[r]? = some o
  | .raw v e bt k xs => ∃ cs, w.ownsRow 0 e k.w v xs.length cs ∧ jQ (Kr G k) k.w xs cs ∧ MJ v bt ∧ ∀ b, v.ownBlock = some b → G.role b = .loc
  | .sby v e xs => ∃ g cap cur fz, v = .slice (some ⟨g, 0, none⟩) xs.length cap ∧ w.heap[g]? = some (.cells cur e fz) ∧ (fz.2 = 0 ∨ cur.size ≤ fz.1) ∧ xs.length ≤ cap ∧ cap ≤ maxLen ∧ cur.size = cap ∧ cur.toList.take xs.length = xs.map (Value.int .u8) ∧ G.role g = .loc

def bJ (w : World) (G : Gh) (T : Tabs) (L : List LS) (b : Nat) : Prop :=
  match G.role b with
  | .pub o => w.heap[b]? = some o
  | .grow _ p => ∃ ce ty, w.heap[b]? = some (.cells ce ty (0, 0)) ∧ ∃ rest, ce.toList = p ++ rest
  | .obj t i => ∃ tab x ce ty, T t = some tab ∧ tab.xs[i]? = some x ∧ w.heap[b]? = some (.cells ce ty (0, 0)) ∧ pR w G L t i 0 tab.fs x ce.toList
  | _ => True

structure Holds (w : World) (G : Gh) (T : Tabs) (L : List LS) : Prop where
  os : w.os = G.base.os
  tape : w.tape = G.base.tape
  output : w.output = G.base.output
  free : ∀ b, w.heap.size ≤ b → G.role b = .free
  block : ∀ b, bJ w G T L b
  ex : ∀ t tab i, T t = some tab → i < tab.xs.length → ∃ b, G.role b = .obj t i
  inj : ∀ b b' t i, G.role b = .obj t i → G.role b' = .obj t i → b = b'
  finj : ∀ b b' t i f, G.role b = .fld t i f → G.role b' = .fld t i f → b = b'
  fex : ∀ b t i f, G.role b = .fld t i f → ∃ tab, T t = some tab ∧ i < tab.xs.length
  loc : ∀ l ∈ L, LSR w G l
  nd : (L.filterMap LS.blk).Nodup

section
variable {w w' : World} {G G' : Gh} {T T' : Tabs} {L L' : List LS}

theorem Holds.lt (h : Holds w G T L) {b : Nat} (hb : G.role b ≠ .free) : b < w.heap.size := by
  rcases Nat.lt_or_ge b w.heap.size with h1 | h1
  · exact h1
  · exact (hb (h.free b h1)).elim

theorem zM {base : Nat} {e size n : Nat} {v : Value} {xs : List Value} (h : w.ownsRow base e size v n xs) (hs : ∀ b, v.ownBlock = some b → w'.heap[b]? = w.heap[b]?) : w'.ownsRow base e size v n xs := by
  refine ⟨h.1, ?_⟩
  rcases h.2 with hn | ⟨g, cap, cur, rfl, hb, hg, rest⟩
  · exact .inl hn
  · exact .inr ⟨g, cap, cur, rfl, hb, by rw [hs g rfl]; exact hg, rest⟩

theorem NK (hle : G.le G') {o : Own} {e bt : Nat} {k : Kd} {xs : List k.den} {v : Value} (hs : ∀ b, v.ownBlock = some b → w'.heap[b]? = w.heap[b]? ∧ G'.role b = G.role b)
    (h : IL G w o e bt k xs v) : IL G' w' o e bt k xs v := by
  obtain ⟨cs, h1, h2, h3, h4⟩ := h
  exact ⟨cs, zM h1 (fun b hb => (hs b hb).1), iV (fun x cs hx => eP hle hx) h2, h3, fun b hb => by rw [(hs b hb).2]; exact h4 b hb⟩

theorem Wl (hle : G.le G') {kk kv : Kd} {m : List (kk.den × kv.den)} {es : List MapEntry} (h : TL G kk kv m es) : TL G' kk kv m es :=
  cO.imp (fun _ _ hx => ⟨zq hle hx.1, zq hle hx.2⟩) h

theorem wK (hle : G.le G') {kk kv : Kd} {m : List (kk.den × kv.den)} {es : List MapEntry} {cl : Nat} (h : yz G kk kv m es cl) : yz G' kk kv m es cl := ⟨Wl hle h.1, h.2⟩

theorem uH (hle : G.le G') {hl : Option Value} {t i f : Nat} {fk : Fk} {x : fk.den} {cs : List Value}
    (hs : ∀ b, (G.role b = .fld t i f ∨ ∃ p, G.role b = .grow (.fld t i f) p) → w'.heap[b]? = w.heap[b]? ∧ G'.role b = G.role b)
    (h : FkR w G hl t i f fk x cs) : FkR w' G' hl t i f fk x cs := by
  cases fk with
  | p k => exact eP hle h
  | own e bt k =>
    cases hl with
    | some v => exact h
    | none =>
      obtain ⟨v, rfl, hv⟩ := h
      refine ⟨v, rfl, NK hle (fun b hb => hs b ?_) hv⟩
      obtain ⟨cs, _, _, _, h4⟩ := hv
      exact .inr ⟨cs, h4 b hb⟩
  | omap kk kv =>
    obtain ⟨r, es, cl, rfl, hr, hh, hm⟩ := h
    obtain ⟨h1, h2⟩ := hs r (.inl hr)
    exact ⟨r, es, cl, rfl, by rw [h2]; exact hr, by rw [h1]; exact hh, wK hle hm⟩

theorem bQ (hle : G.le G') {t i : Nat} (hL : ∀ f, aK t i f L' = aK t i f L)
    (hs : ∀ b f, (G.role b = .fld t i f ∨ ∃ p, G.role b = .grow (.fld t i f) p) → w'.heap[b]? = w.heap[b]? ∧ G'.role b = G.role b) :
    ∀ {f : Nat} {fs : List Fk} {x : az fs} {cs : List Value}, pR w G L t i f fs x cs → pR w' G' L' t i f fs x cs
  | _, [], _, _, h => h
  | f, fk :: r, x, cs, ⟨c1, c2, hc, h1, h2⟩ => ⟨c1, c2, hc, by rw [hL]; exact uH hle (fun b hb => hs b f hb) h1, bQ hle hL hs h2⟩

theorem fC (hle : G.le G') {l : LS} (hs : ∀ b, l.blk = some b → w'.heap[b]? = w.heap[b]? ∧ G'.role b = G.role b) (h : LSR w G l) : LSR w' G' l := by
  cases l with
  | tk v e bt k xs => exact NK hle hs h
  | arr v k xs =>
    obtain ⟨b, off, c, ce, ty, rfl, h1, h2, h3, h4, h5⟩ := h
    obtain ⟨k1, k2⟩ := hs b rfl
    exact ⟨b, off, c, ce, ty, rfl, by rw [k2]; exact h1, by rw [k1]; exact h2, h3, h4, iV (fun x cs hx => eP hle hx) h5⟩
  | box b k x =>
    obtain ⟨h1, ce, ty, h2, h3⟩ := h
    obtain ⟨k1, k2⟩ := hs b rfl
    exact ⟨by rw [k2]; exact h1, ce, ty, by rw [k1]; exact h2, eP hle h3⟩
  | mp r kk kv m =>
    obtain ⟨h1, es, cl, h2, h3⟩ := h
    obtain ⟨k1, k2⟩ := hs r rfl
    exact ⟨by rw [k2]; exact h1, es, cl, by rw [k1]; exact h2, wK hle h3⟩
  | hole => trivial
  | iter r o => obtain ⟨k1, k2⟩ := hs r rfl; exact ⟨by rw [k2]; exact h.1, by rw [k1]; exact h.2⟩
  | raw v e bt k xs =>
    obtain ⟨cs, h1, h2, h3, h4⟩ := h
    exact ⟨cs, zM h1 (fun b hb => (hs b hb).1), iV (fun x cs hx => eP hle hx) h2, h3, fun b hb => by rw [(hs b hb).2]; exact h4 b hb⟩
  | sby v e xs =>
    obtain ⟨g, cap, cur, fz, rfl, h1, h2, h3, h4, h5, h6, h7⟩ := h
    obtain ⟨k1, k2⟩ := hs g rfl
    exact ⟨g, cap, cur, fz, rfl, by rw [k1]; exact h1, h2, h3, h4, h5, h6, by rw [k2]; exact h7⟩

theorem Holds.change (h : Holds w G T L) (X : Nat → Prop) (hle : G.le G')
    (henv : w'.os = w.os ∧ w'.tape = w.tape ∧ w'.output = w.output)
    (hfree : ∀ b, w'.heap.size ≤ b → G'.role b = .free)
    (hX : ∀ b, ¬ X b → w'.heap[b]? = w.heap[b]? ∧ G'.role b = G.role b)
    (hin : ∀ b, X b → bJ w' G' T' L' b)
    (hobj : ∀ b t i, ¬ X b → G.role b = .obj t i → ∀ tab x cs, T t = some tab → tab.xs[i]? = some x → pR w G L t i 0 tab.fs x cs →
      ∃ tab' x', T' t = some tab' ∧ tab'.xs[i]? = some x' ∧ pR w' G' L' t i 0 tab'.fs x' cs)
    (hloc : ∀ l ∈ L', LSR w' G' l) (hnd : (L'.filterMap LS.blk).Nodup)
    (hex : ∀ t tab i, T' t = some tab → i < tab.xs.length → ∃ b, G'.role b = .obj t i)
    (hinj : ∀ b b' t i, G'.role b = .obj t i → G'.role b' = .obj t i → b = b')
    (hfinj : ∀ b b' t i f, G'.role b = .fld t i f → G'.role b' = .fld t i f → b = b')
    (hfex : ∀ b t i f, G'.role b = .fld t i f → ∃ tab, T' t = some tab ∧ i < tab.xs.length) : Holds w' G' T' L' where
  os := by rw [henv.1, h.os, hle.1]
  tape := by rw [henv.2.1, h.tape, hle.1]
  output := by rw [henv.2.2, h.output, hle.1]
  free := hfree
  block := by
    intro b
    by_cases hb : X b
    · exact hin b hb
    · obtain ⟨h1, h2⟩ := hX b hb
      have := h.block b
      unfold bJ at this ⊢
      rw [h2]
      cases hr : G.role b with
      | pub o => rw [hr] at this; rw [h1]; exact this
      | grow o p => rw [hr] at this; rw [h1]; exact this
      | obj t i =>
        rw [hr] at this
        obtain ⟨tab, x, ce, ty, k1, k2, k3, k4⟩ := this
        obtain ⟨tab', x', j1, j2, j3⟩ := hobj b t i hb hr tab x _ k1 k2 k4
        exact ⟨tab', x', ce, ty, j1, j2, by rw [h1]; exact k3, j3⟩
      | _ => trivial
  ex := hex
  inj := hinj
  finj := hfinj
  fex := hfex
  loc := hloc
  nd := hnd

theorem Holds.drawn (h : Holds w G T L) (n : Nat) : Holds { w with drawn := n } G T L :=
  h.change (fun _ => False) (Gh.le_refl G) ⟨rfl, rfl, rfl⟩ h.free (fun b _ => ⟨rfl, rfl⟩) (fun _ hb => hb.elim)
    (fun b t i _ _ tab x cs h1 h2 h3 => ⟨tab, x, h1, h2, bQ (w := w) (w' := { w with drawn := n }) (L := L) (Gh.le_refl G) (fun _ => rfl) (fun _ _ _ => ⟨rfl, rfl⟩) h3⟩)
    (fun l hl => fC (w := w) (w' := { w with drawn := n }) (Gh.le_refl G) (fun _ _ => ⟨rfl, rfl⟩) (h.loc l hl)) h.nd h.ex h.inj h.finj h.fex

def Gh.set (G : Gh) (b : Nat) (r : nX) : Gh := { G with role := fun b' => if b' = b then r else G.role b' }

theorem Gh.aA (G : Gh) (b : Nat) (r : nX) : (G.set b r).role b = r := by simp [Gh.set]
theorem Gh.aW (G : Gh) {b b' : Nat} (r : nX) (h : b' ≠ b) : (G.set b r).role b' = G.role b' := by simp [Gh.set, h]

theorem Gh.Ky {b : Nat} {r : nX} (h : (G.role b).le r) : G.le (G.set b r) := by
  refine ⟨rfl, fun b' => ?_⟩
  by_cases hb : b' = b
  · subst hb; rw [Gh.aA]; exact h
  · rw [Gh.aW _ _ hb]; exact nX.le_refl _

theorem Gh.iH (h : Holds w G T L) (r : nX) : G.le (G.set w.heap.size r) :=
  Gh.Ky (by rw [h.free _ (Nat.le_refl _)]; trivial)

theorem heap_alloc_new' (w : World) (o : Obj) : (w.alloc o).heap[w.heap.size]? = some o := by simp only [World.alloc, Array.getElem?_push, if_true]
theorem iq (w : World) (o : Obj) {b : Nat} (h : b ≠ w.heap.size) : (w.alloc o).heap[b]? = w.heap[b]? := by
  simp only [World.alloc, Array.getElem?_push]
  simp [h]

theorem Holds.alloc (h : Holds w G T L) (o : Obj) (r : nX) (T' : Tabs) (L' : List LS)
    (hok : bJ (w.alloc o) (G.set w.heap.size r) T' L' w.heap.size)
    (hT : ∀ b t i, G.role b = .obj t i → ∀ tab x, T t = some tab → tab.xs[i]? = some x → T' t = some tab ∨ ∃ xs, T' t = some ⟨tab.fs, tab.xs ++ xs⟩)
    (hhole : ∀ t i f, aK t i f L' = aK t i f L)
    (hloc : ∀ l ∈ L', l ∈ L ∨ LSR (w.alloc o) (G.set w.heap.size r) l) (hnd : (L'.filterMap LS.blk).Nodup)
    (hex : ∀ t tab i, T' t = some tab → i < tab.xs.length → ∃ b, (G.set w.heap.size r).role b = .obj t i)
    (hinj : ∀ t i, r = .obj t i → ∀ b, G.role b ≠ .obj t i) (hfinj : ∀ t i f, r ≠ .fld t i f)
    (hT2 : ∀ t tab, T t = some tab → ∃ xs, T' t = some ⟨tab.fs, tab.xs ++ xs⟩) : Holds (w.alloc o) (G.set w.heap.size r) T' L' := by
  have hsame : ∀ b, b ≠ w.heap.size → (w.alloc o).heap[b]? = w.heap[b]? ∧ (G.set w.heap.size r).role b = G.role b :=
    fun b hb => ⟨iq w o hb, Gh.aW _ _ hb⟩
  have hne : ∀ b, G.role b ≠ .free → b ≠ w.heap.size := fun b hb he => hb (h.free b (by omega))
  refine h.change (fun b => b = w.heap.size) (Gh.iH h r) ⟨rfl, rfl, rfl⟩ ?_ hsame (fun b hb => by subst hb; exact hok) ?_ ?_ hnd hex ?_ ?_ ?_
  · intro b hb
    simp at hb
    rw [Gh.aW _ _ (by omega)]
    exact h.free b (by omega)
  · intro b t i hb hr tab x cs h1 h2 h3
    have h3' : pR (w.alloc o) (G.set w.heap.size r) L' t i 0 tab.fs x cs := by
      refine bQ (Gh.iH h r) (fun f => hhole t i f) (fun b f hb => hsame b (hne b ?_)) h3
      rcases hb with hb | ⟨p, hb⟩ <;> rw [hb] <;> simp
    rcases hT b t i hr tab x h1 h2 with h4 | ⟨xs, h4⟩
    · exact ⟨tab, x, h4, h2, h3'⟩
    · refine ⟨⟨tab.fs, tab.xs ++ xs⟩, x, h4, ?_, h3'⟩
      rw [List.getElem?_append_left (List.getElem?_eq_some_iff.1 h2).1]; exact h2
  · intro l hl
    rcases hloc l hl with h1 | h1
    · refine fC (Gh.iH h r) (fun b hb => hsame b (hne b ?_)) (h.loc l h1)
      have hr := h.loc l h1
      cases l with
      | tk v e bt k xs => obtain ⟨cs, _, _, _, h4⟩ := hr; rw [h4 b hb]; simp
      | arr v k xs => obtain ⟨b', off, c, ce, ty, rfl, k1, _⟩ := hr; simp [LS.blk, Value.ownBlock] at hb; subst hb; rw [k1]; simp
      | box b' k x => simp [LS.blk] at hb; subst hb; rw [hr.1]; simp
      | mp b' kk kv m => simp [LS.blk] at hb; subst hb; rw [hr.1]; simp
      | hole => simp [LS.blk] at hb
      | iter b' o => simp [LS.blk] at hb; subst hb; rw [hr.1]; simp
      | raw v e bt k xs => obtain ⟨cs, _, _, _, h4⟩ := hr; rw [h4 b hb]; simp
      | sby v e xs => obtain ⟨g, cap, cur, fz, rfl, _, _, _, _, _, _, h7⟩ := hr; simp [LS.blk, Value.ownBlock] at hb; subst hb; rw [h7]; simp
    · exact h1
  · intro b b' t i h1 h2
    by_cases hb : b = w.heap.size
    · by_cases hb' : b' = w.heap.size
      · rw [hb, hb']
      · subst hb
        rw [Gh.aA] at h1
        rw [Gh.aW _ _ hb'] at h2
        exact (hinj t i h1 b' h2).elim
    · by_cases hb' : b' = w.heap.size
      · subst hb'
        rw [Gh.aA] at h2
        rw [Gh.aW _ _ hb] at h1
        exact (hinj t i h2 b h1).elim
      · rw [Gh.aW _ _ hb] at h1
        rw [Gh.aW _ _ hb'] at h2
        exact h.inj b b' t i h1 h2
  · intro b b' t i f h1 h2
    have hb : b ≠ w.heap.size := fun hb => by subst hb; rw [Gh.aA] at h1; exact hfinj t i f h1
    have hb' : b' ≠ w.heap.size := fun hb => by subst hb; rw [Gh.aA] at h2; exact hfinj t i f h2
    rw [Gh.aW _ _ hb] at h1
    rw [Gh.aW _ _ hb'] at h2
    exact h.finj b b' t i f h1 h2
  · intro b t i f h1
    have hb : b ≠ w.heap.size := fun hb => by subst hb; rw [Gh.aA] at h1; exact hfinj t i f h1
    rw [Gh.aW _ _ hb] at h1
    obtain ⟨tab, h2, h3⟩ := h.fex b t i f h1
    obtain ⟨xs, h4⟩ := hT2 t tab h2
    exact ⟨_, h4, by simp; omega⟩

theorem Holds.BJ (h : Holds w G T L) {l : LS} (hl : l ∈ L) {b : Nat} (hb : l.blk = some b) : G.role b = .loc ∨ ∃ p, G.role b = .grow .loc p := by
  have hr := h.loc l hl
  cases l with
  | tk v e bt k xs => obtain ⟨cs, _, _, _, h4⟩ := hr; exact .inr ⟨cs, h4 b hb⟩
  | arr v k xs => obtain ⟨b', off, c, ce, ty, rfl, k1, _⟩ := hr; simp [LS.blk, Value.ownBlock] at hb; subst hb; exact .inl k1
  | box b' k x => simp [LS.blk] at hb; subst hb; exact .inl hr.1
  | mp b' kk kv m => simp [LS.blk] at hb; subst hb; exact .inl hr.1
  | hole => simp [LS.blk] at hb
  | iter b' o => simp [LS.blk] at hb; subst hb; exact .inl hr.1
  | raw v e bt k xs => obtain ⟨cs, _, _, _, h4⟩ := hr; exact .inl (h4 b hb)
  | sby v e xs => obtain ⟨g, cap, cur, fz, rfl, _, _, _, _, _, _, h7⟩ := hr; simp [LS.blk, Value.ownBlock] at hb; subst hb; exact .inl h7

end
end Go.Proofs.YtbnmhjobnepajaaGreat.M


namespace Go.Proofs.YtbnmhjobnepajaaGreat.M

inductive Adv where
  | pt (i : Nat)
  | ob (fs : List Fk) (x : az fs)
  | bx (j : Nat) (k : Kd) (x : k.den)
  | ix (k : Kd) (y : k.den)
  | mp (j r : Nat) (kk kv : Kd) (m : List (kk.den × kv.den))

def og (T : Tabs) (t i : Nat) (fs : List Fk) (x : az fs) : Prop := ∃ xs, T t = some ⟨fs, xs⟩ ∧ xs[i]? = some x
def Jl (k : Kd) (xs : List k.den) (n : Int) (k' : Kd) (y : k'.den) : Prop := 0 ≤ n ∧ (xs.map (KV.mk k))[n.toNat]? = some ⟨k', y⟩

theorem Jl.mk {k : Kd} {xs : List k.den} {n : Int} {y : k.den} (h0 : 0 ≤ n) (h : xs[n.toNat]? = some y) : Jl k xs n k y := ⟨h0, by simp [h]⟩

def F9 (ag : Bool) (sz : Nat) : (k : Kd) → k.den → Nat → Option KV
  | .pair a b, x, o =>
    (match Nat.beq o 0 && (Nat.beq (a.w + b.w) sz && ag) with
    | true => some ⟨.pair a b, x⟩
    | false => (match Nat.blt o a.w with
      | true => F9 ag sz a x.1 o
      | false => F9 ag sz b x.2 (o - a.w)))
  | .unit, x, o => none
  | k, x, o => (match Nat.beq o 0 && (Nat.beq k.w sz && !ag) with
    | true => some ⟨k, x⟩
    | false => none)

inductive FO where
  | p (r : KV)
  | own (f : Nat) (k : Kd) (xs : List k.den)
  | mp (f : Nat)

def JY (ag : Bool) (sz : Nat) : (fs : List Fk) → az fs → Nat → Nat → Option FO
  | [], _, _, _ => none
  | .p k :: r, x, o, f => (match Nat.blt o k.w with
    | true => (match F9 ag sz k x.1 o with
      | some y => some (.p y)
      | none => none)
    | false => JY ag sz r x.2 (o - k.w) (f + 1))
  | .own _ _ k :: r, x, o, f => (match Nat.beq o 0 && (Nat.beq sz 1 && !ag) with
    | true => some (.own f k x.1)
    | false => (match Nat.beq o 0 with
      | true => none
      | false => JY ag sz r x.2 (o - 1) (f + 1)))
  | .omap _ _ :: r, x, o, f => (match Nat.beq o 0 && (Nat.beq sz 1 && !ag) with
    | true => some (.mp f)
    | false => (match Nat.beq o 0 with
      | true => none
      | false => JY ag sz r x.2 (o - 1) (f + 1)))

structure MP where
  kk : Kd
  kv : Kd
  m : List (kk.den × kv.den)

def FP : (fs : List Fk) → az fs → Nat → Option MP
  | [], _, _ => none
  | .omap kk kv :: _, x, 0 => some ⟨kk, kv, x.1⟩
  | _ :: _, _, 0 => none
  | _ :: r, x, f + 1 => FP r x.2 f

def tZ : (k : Kd) → k.den → k.den → Bool
  | .int _, a, b => a == b
  | .str, a, b => a == b
  | .bool, a, b => a == b
  | _, _, _ => false

def pO : Kd → Option TypeDesc → Bool
  | .int _, some (.int _) => true
  | .str, some .string => true
  | .bool, some .bool => true
  | _, _ => false

def bZ (kk kv : Kd) (key : kk.den) : List (kk.den × kv.den) → Option kv.den
  | [] => none
  | (k, v) :: r => (match tZ kk key k with
    | true => some v
    | false => bZ kk kv key r)

def fB : (k : Kd) → k.den
  | .unit => ()
  | .int _ => (0 : Int)
  | .bool => false
  | .str => []
  | .ptr _ => none
  | .list _ => []
  | .pair a b => (fB a, fB b)

def lG : Kd → List Value → Option (List Value)
  | .unit, cs => some cs
  | .int k, cs => (match cs with
    | .int k' n :: r => if n = 0 ∧ k = k' then some r else none
    | _ => none)
  | .bool, cs => (match cs with
    | .bool b :: r => if b = false then some r else none
    | _ => none)
  | .str, cs => (match cs with
    | .string s :: r => (match s.data.toList with
      | [] => some r
      | _ => none)
    | _ => none)
  | .ptr _, cs => (match cs with
    | .pointer none :: r => some r
    | _ => none)
  | .list _, cs => (match cs with
    | .slice none 0 0 :: r => some r
    | _ => none)
  | .pair a b, cs => (match lG a cs with
    | some r => lG b r
    | none => none)

def isZero (k : Kd) (v : Value) : Bool :=
  match v, k.agg with
  | .agg cs, true => (match lG k cs.toList with | some [] => true | _ => false)
  | .agg _, false => false
  | v, false => (match lG k [v] with | some [] => true | _ => false)
  | _, true => false

def zeroOf (P : Program) (t : TypeId) : Option Value :=
  match P.info? t with
  | some i => i.zero
  | none => none

def U2 (P : Program) (ty : TypeId) (ok : Bool) (kk kv : Kd) (key : kk.den) (m : List (kk.den × kv.den)) : Option En :=
  match P.underlying ty with
  | some (.map kt et) => (match pO kk (P.underlying kt), zeroOf P et with
    | true, some z => (match isZero kv z with
      | true => (match ok with
        | true => some (.tup [⟨kv, (bZ kk kv key m).getD (fB kv)⟩, ⟨.bool, (bZ kk kv key m).isSome⟩])
        | false => some (.kv kv ((bZ kk kv key m).getD (fB kv))))
      | false => none)
    | _, _ => none)
  | _ => none

def btS (s : List UInt8) (n : Int) : Int := ((s.getD n.toNat 0).toNat : Int)

def slB (n : Nat) (lo hi : Option Int) : Prop :=
  match lo, hi with
  | none, none => True
  | some a, none => 0 ≤ a ∧ a ≤ n
  | none, some b => 0 ≤ b ∧ b ≤ n
  | some a, some b => 0 ≤ a ∧ a ≤ b ∧ b ≤ n

def slL {α : Type} (s : List α) (lo hi : Option Int) : List α :=
  match lo, hi with
  | none, none => s
  | some a, none => s.drop a.toNat
  | none, some b => s.take b.toNat
  | some a, some b => (s.take b.toNat).drop a.toNat

def TQ (M : Operand → Option En) : Option Operand → Option (Option Int)
  | none => some none
  | some x => (match M x with
    | some (.kv (.int _) n) => some (some n)
    | _ => none)

abbrev R3 := En × List Prop × List Adv

def Be (P : Program) (T : Tabs) (L : List LS) (ty : TypeId) (e : En) (A : List Adv) : Option R3 :=
  match fA P ty, AB P ty with
  | some sz, some ag => (match e with
    | .elA k y off => (match F9 ag sz k y off with
      | some ⟨k', z⟩ => some (.kv k' z, [], A)
      | none => none)
    | .fldA t i off => (match A with
      | .ob fs x :: A' => (match JY ag sz fs x off 0 with
        | some (.p ⟨k, z⟩) => some (.kv k z, [og T t i fs x], A')
        | some (.own f k xs) => some (.kv (.list k) xs, [og T t i fs x, aK t i f L = none], A')
        | some (.mp f) => some (.fm t i f, [og T t i fs x], A')
        | none => none)
      | _ => none)
    | .val (.pointer (some ⟨b, off, none⟩)) => (match A with
      | .bx j k x :: A' => (match F9 ag sz k x off with
        | some ⟨k', z⟩ => some (.kv k' z, [L[j]? = some (.box b k x)], A')
        | none => none)
      | _ => none)
    | _ => none)
  | _, _ => none

def X3 (P : Program) (ty : TypeId) (x : En) (n : Int) (A : List Adv) : Option R3 :=
  match P.underlying ty with
  | some (.slice el) => (match A with
    | .ix k' y :: A' => (match x with
      | .kv (.list k) xs => (match fA P el with
        | some sz => (match Nat.beq sz k.w && Nat.blt 0 k.w with
          | true => some (.elA k' y 0, [Jl k xs n k' y], A')
          | false => none)
        | none => none)
      | .tl _ k xs => (match fA P el with
        | some sz => (match Nat.beq sz k.w && Nat.blt 0 k.w with
          | true => some (.elA k' y 0, [Jl k xs n k' y], A')
          | false => none)
        | none => none)
      | _ => none)
    | _ => none)
  | _ => none

def VT (P : Program) (ty : TypeId) (x : En) (lo hi : Option Int) (A : List Adv) : Option R3 :=
  match P.underlying ty, x with
  | some .string, .kv .str s => some (.kv .str (slL s lo hi), [slB s.length lo hi], A)
  | some (.slice el), .kv (.list k) xs => (match fA P el with
    | some sz => (match Nat.beq sz k.w with
      | true => some (.kv (.list k) (slL xs lo hi), [slB xs.length lo hi], A)
      | false => none)
    | none => none)
  | some (.slice el), .tl _ k xs => (match fA P el with
    | some sz => (match Nat.beq sz k.w with
      | true => some (.kv (.list k) (slL xs lo hi), [slB xs.length lo hi], A)
      | false => none)
    | none => none)
  | _, _ => none

def DD (P : Program) (op : BinOp) (t : TypeId) (x y : En) (A : List Adv) : Option R3 :=
  match op, x, y with
  | .quo, .kv (.int k) a, .kv (.int k') b => if k = k' then some (.kv (.int k) (k.wrap (a.tdiv b)), [b ≠ 0], A) else none
  | .rem, .kv (.int k) a, .kv (.int k') b => if k = k' then some (.kv (.int k) (a.tmod b), [b ≠ 0], A) else none
  | .shl, .kv (.int k) a, .kv (.int _) b => some (.kv (.int k) (k.wrap (a * 2 ^ (min b.toNat k.bits))), [0 ≤ b], A)
  | .shr, .kv (.int k) a, .kv (.int _) b => some (.kv (.int k) (a.fdiv (2 ^ (min b.toNat k.bits))), [0 ≤ b], A)
  | .add, .kv .str a, .kv .str b => some (.kv .str (a ++ b), [a.length + b.length ≤ 9223372036854775807], A)
  | op, x, y => (match bop P op t x y with
    | some e => some (e, [], A)
    | none => none)

def Na (T : Tabs) (L : List LS) (e : En) (A : List Adv) : Option (MP × List Prop × List Adv) :=
  match e, A with
  | .fm t i f, .ob fs x :: A' => (match FP fs x f with
    | some mp => some (mp, [og T t i fs x], A')
    | none => none)
  | .val (.map (some r)), .mp j r' kk kv m :: A' => some (⟨kk, kv, m⟩, [r' = r ∧ L[j]? = some (.mp r' kk kv m)], A')
  | _, _ => none

def X4 (P : Program) (T : Tabs) (L : List LS) (M : Operand → Option En) (op : Op) (A : List Adv) : Option R3 :=
  match op with
  | .call c => (match c.callee, c.args.toList, c.argTypes.toList with
    | .builtin .len, [x], [t] => (match P.underlying t, M x with
      | some (.map _ _), some e => (match Na T L e A with
        | some (mp, O, A') => some (.kv (.int .i64) (mp.m.length : Int), O, A')
        | none => none)
      | _, _ => none)
    | _, _, _ => none)
  | _ => none

def bT (xs : List Int) : List UInt8 := xs.map fun n => UInt8.ofNat n.toNat

def u8L : En → Option (List Int)
  | .kv (.list (.int .u8)) xs => some xs
  | .tl _ (.int .u8) xs => some xs
  | .pl (.int .u8) xs => some xs
  | _ => none

def UM (P : Program) (src dst : TypeId) (x : En) (A : List Adv) : Option R3 :=
  match P.underlying src, P.underlying dst with
  | some (.slice e), some .string => (match P.underlying e, u8L x with
    | some (.int .u8), some xs => some (.kv .str (bT xs), [], A)
    | _, _ => none)
  | _, _ => none

def ev (P : Program) (T : Tabs) (L : List LS) (M : Operand → Option En) (op : Op) (A : List Adv) : Option R3 :=
  match op with
  | .nilCheck x => (match M x with
    | some (.kv (.ptr t) p) => (match A with
      | .pt i :: A' => some (.kv (.ptr t) (some i), [p = some i], A')
      | _ => none)
    | some e => (match YW e with
      | some e' => some (e', [], A)
      | none => none)
    | none => none)
  | .load ty x => (match M x with
    | some e => Be P T L ty e A
    | none => none)
  | .indexAddr ty x i => (match M x, M i with
    | some e, some (.kv (.int _) n) => X3 P ty e n A
    | _, _ => none)
  | .index ty x i => (match P.underlying ty, M x, M i with
    | some .string, some (.kv .str s), some (.kv (.int _) n) => some (.kv (.int .u8) (btS s n), [0 ≤ n ∧ n < s.length], A)
    | _, _, _ => none)
  | .slice ty x lo hi none => (match M x, TQ M lo, TQ M hi with
    | some e, some a, some b => VT P ty e a b A
    | _, _, _ => none)
  | .binOp op t x y _ => (match M x, M y with
    | some a, some b => DD P op t a b A
    | _, _ => none)
  | .lookup ty x i ok => (match M x, M i with
    | some e, some (.kv kk key) => (match Na T L e A with
      | some (⟨kk', kv, m⟩, O, A') => if h : kk = kk' then (match U2 P ty ok kk' kv (h ▸ key) m with
        | some r => some (r, O, A')
        | none => none) else none
      | none => none)
    | _, _ => none)
  | .convert src dst x => (match M x with
    | some e => (match cnv P src dst e with
      | some r => some (r, [], A)
      | none => UM P src dst e A)
    | none => none)
  | op => (match pev P M op with
    | some e => some (e, [], A)
    | none => X4 P T L M op A)

def ab3 (L : Nat → Option En) (s : Nat) : Option En :=
  match L s with
  | some e => rsv L e
  | none => none

def PT (P : Program) (T : Tabs) (Ls : List LS) (ops : Array Oper) (L : Nat → Option En) (o : Oper) (A : List Adv) : Option R3 :=
  match o.guard with
  | none => (match o.op with
    | .pick c x y => (match TR P L [] (.pick c x y) with
      | some e => some (e, [], A)
      | none => none)
    | op => ev P T Ls (gz L []) op A)
  | some (j, want) => (match (ops[j]?).bind (·.dst) with
    | some sj => (match TR P L (chain L 6 sj want) o.op with
      | some e => some (.cnd sj want e, [], A)
      | none => (match ab3 L sj with
        | some (.kv .bool b) => (match b, want with
          | true, true => ev P T Ls (gz L (chain L 6 sj want)) o.op A
          | false, false => ev P T Ls (gz L (chain L 6 sj want)) o.op A
          | true, false => some (.undef, [], A)
          | false, true => some (.undef, [], A))
        | some .undef => some (.undef, [], A)
        | _ => none))
    | none => none)

def Lc (P : Program) (T : Tabs) (Ls : List LS) (ops : Array Oper) (N : Nat) (E : Env) : Nat → Nat → Env → List Adv → Option (Env × List Prop)
  | 0, _, cur, [] => some (cur, [])
  | 0, _, _, _ => none
  | n + 1, i, cur, A => (match ops[i]? with
    | some o => (match PT P T Ls ops (look E cur) o A with
      | some (e, O, A') => (match o.dst with
        | some d => (match Nat.blt d N && (uf d cur && uf.noCndE d e) with
          | true => (match Lc P T Ls ops N E n (i + 1) ((d, e) :: cur) A' with
            | some (c, O') => some (c, O ++ O')
            | none => none)
          | false => none)
        | none => (match Lc P T Ls ops N E n (i + 1) cur A' with
          | some (c, O') => some (c, O ++ O')
          | none => none))
      | none => none)
    | none => none)

def aaW (P : Program) (T : Tabs) (Ls : List LS) (ops : Array Oper) (N : Nat) (E : Env) (n i : Nat) (A : List Adv) (sl : List Nat) : Option (Env × List Prop) :=
  match Lc P T Ls ops N E n i [] A with
  | some (cur, O) => (match stale E sl cur with
    | true => (match Ih (look E cur) sl with
      | some D => some (D, O)
      | none => none)
    | false => none)
  | none => none

def wP : List Prop → Prop
  | [] => True
  | p :: r => p ∧ wP r

theorem Hu {A B : List Prop} : wP (A ++ B) ↔ wP A ∧ wP B := by
  induction A with
  | nil => simp [wP]
  | cons p A ih => simp [wP, ih, and_assoc]

section
variable {P : Program} {w : World} {G : Gh} {T : Tabs} {L : List LS}

theorem CX {ag : Bool} {sz : Nat} : ∀ {k : Kd} {x : k.den} {o : Nat} {r : KV} {cs : List Value}, F9 ag sz k x o = some r → Kr G k x cs →
    r.k.w = sz ∧ r.k.agg = ag ∧ o + r.k.w ≤ cs.length ∧ Kr G r.k r.x ((cs.drop o).take r.k.w)
  | .pair a b, x, o, r, cs, h, hk => by
    have hlen := iM hk
    unfold F9 at h
    split at h
    · rename_i hb
      simp only [Bool.and_eq_true] at hb
      obtain ⟨h1, h2, h3⟩ := hb
      have ho := Nat.eq_of_beq_eq_true h1
      have hs := Nat.eq_of_beq_eq_true h2
      simp only [Option.some.injEq] at h; subst h; subst ho
      refine ⟨hs, by rw [h3]; rfl, by simp only [Kd.w] at hlen ⊢; omega, ?_⟩
      simp only [List.drop_zero]
      rw [List.take_of_length_le (by omega)]; exact hk
    · simp only [Kr] at hk
      obtain ⟨c1, c2, rfl, h1, h2⟩ := hk
      have hl := iM h1
      split at h
      · rename_i hlt
        have hlt' : o < a.w := Nat.le_of_ble_eq_true hlt
        obtain ⟨k1, k2, k3, k4⟩ := CX h h1
        refine ⟨k1, k2, by simp; omega, ?_⟩
        rw [List.drop_append_of_le_length (by omega), List.take_append_of_le_length (by simp; omega)]
        exact k4
      · rename_i hlt
        have hge : a.w ≤ o := by
          rcases Nat.lt_or_ge o a.w with h' | h'
          · have : Nat.blt o a.w = true := Nat.ble_eq_true_of_le h'
            rw [hlt] at this; simp at this
          · exact h'
        obtain ⟨k1, k2, k3, k4⟩ := CX h h2
        refine ⟨k1, k2, by simp; omega, ?_⟩
        rw [List.drop_append, List.drop_of_length_le (by omega), List.nil_append, hl]
        exact k4
  | .unit, x, o, r, cs, h, hk => by simp [F9] at h
  | .int k, x, o, r, cs, h, hk => subK_one rfl rfl h hk
  | .bool, x, o, r, cs, h, hk => subK_one rfl rfl h hk
  | .str, x, o, r, cs, h, hk => subK_one rfl rfl h hk
  | .ptr t, x, o, r, cs, h, hk => subK_one rfl rfl h hk
  | .list k, x, o, r, cs, h, hk => subK_one rfl rfl h hk
  where
  subK_one {ag : Bool} {sz : Nat} {k : Kd} {x : k.den} {o : Nat} {r : KV} {cs : List Value} (hag : k.agg = false) (hd : F9 ag sz k x o = (match Nat.beq o 0 && (Nat.beq k.w sz && !ag) with | true => some ⟨k, x⟩ | false => none))
      (h : F9 ag sz k x o = some r) (hk : Kr G k x cs) : r.k.w = sz ∧ r.k.agg = ag ∧ o + r.k.w ≤ cs.length ∧ Kr G r.k r.x ((cs.drop o).take r.k.w) := by
    have hlen := iM hk
    rw [hd] at h
    split at h
    · rename_i hb
      simp only [Bool.and_eq_true, Bool.not_eq_true'] at hb
      obtain ⟨h1, h2, h3⟩ := hb
      have ho := Nat.eq_of_beq_eq_true h1
      have hs := Nat.eq_of_beq_eq_true h2
      simp only [Option.some.injEq] at h; subst h; subst ho
      refine ⟨hs, by rw [h3]; exact hag, by simp only at *; omega, ?_⟩
      simp only [List.drop_zero]
      rw [List.take_of_length_le (by omega)]; exact hk
    · simp at h

theorem vS {b o : Nat} {ce : Array Value} {ty : TypeId} {fr : Nat × Nat} (h : w.heap[b]? = some (.cells ce ty fr)) : w.cell? ⟨b, o, none⟩ = ce[o]? := by
  simp [World.cell?, h]

theorem uz {ty : TypeId} {b off : Nat} {ce : Array Value} {tb : TypeId} {fr : Nat × Nat} {k : Kd} {x : k.den} (h1 : fA P ty = some k.w) (h2 : AB P ty = some k.agg)
    (hh : w.heap[b]? = some (.cells ce tb fr)) (hl : off + k.w ≤ ce.size) (hr : Kr G k x ((ce.toList.drop off).take k.w)) :
    ∃ v, (Instr.loadAt ty (.pointer (some ⟨b, off, none⟩))).run P w = .ok v w ∧ VR G k x v := by
  cases ha : k.agg with
  | true =>
    rw [ha] at h2
    have hcs : ((ce.toList.drop off).take k.w).length = k.w := iM hr
    have := run_loadCells_list (P := P) w ⟨b, off, none⟩ ((ce.toList.drop off).take k.w) (fun j v hj => by
      rw [addr_add, vS hh]
      rw [List.getElem?_take] at hj
      split at hj
      · simpa using hj
      · simp at hj)
    rw [hcs] at this
    refine ⟨.agg ((ce.toList.drop off).take k.w).toArray, ?_, ?_⟩
    · simp [Instr.loadAt, Instr.sureAddr, loadVar, wL h2, run_sizeOf h1, this]
    · simp only [VR, ha]
      exact ⟨_, rfl, by simpa using hr⟩
  | false =>
    rw [ha] at h2
    obtain ⟨v, hv, hr'⟩ := Oz hr ha
    refine ⟨v, ?_, hr'⟩
    have hw : k.w = 1 := by have := iM hr; rw [hv] at this; simpa using this.symm
    have hg : ce[off]? = some v := by
      rw [hw] at hv
      have h3 : ((ce.toList.drop off).take 1)[0]? = some v := by rw [hv]; rfl
      simpa using h3
    have hc : w.cell? ⟨b, off, none⟩ = some v := by rw [vS hh]; exact hg
    simp [Instr.loadAt, Instr.sureAddr, loadVar, wL h2, hc]

theorem Holds.G9 (h : Holds w G T L) {b : Nat} {p : List Value} (hp : G.pre b = some p) : ∃ ce ty fr rest, w.heap[b]? = some (.cells ce ty fr) ∧ ce.toList = p ++ rest := by
  have hb := h.block b
  unfold bJ at hb
  unfold Gh.pre at hp
  cases hr : G.role b with
  | pub o =>
    rw [hr] at hb hp
    cases o <;> simp at hp
    subst hp
    exact ⟨_, _, _, [], hb, by simp⟩
  | grow o q =>
    rw [hr] at hb hp
    simp at hp; subst hp
    obtain ⟨ce, ty, h1, rest, h2⟩ := hb
    exact ⟨ce, ty, (0, 0), rest, h1, h2⟩
  | free => rw [hr] at hp; simp at hp
  | obj t i => rw [hr] at hp; simp at hp
  | fld t i f => rw [hr] at hp; simp at hp
  | loc => rw [hr] at hp; simp at hp

theorem LU {α : Type} {p rest : List α} {o n : Nat} (h : n ≤ (p.drop o).length) : ((p ++ rest).drop o).take n = (p.drop o).take n := by
  rw [List.drop_append, List.take_append_of_le_length h]

theorem YF (h : Holds w G T L) {ty : TypeId} {k : Kd} {x : k.den} {off : Nat} {v : Value} {sz : Nat} {ag : Bool} {r : KV} (hv : EnR G (.elA k x off) v)
    (h1 : fA P ty = some sz) (h2 : AB P ty = some ag) (hs : F9 ag sz k x off = some r) : ∃ u, (Instr.loadAt ty v).run P w = .ok u w ∧ EnR G (.kv r.k r.x) u := by
  obtain ⟨b, o, p, rfl, hp, hl, hk⟩ := hv
  obtain ⟨ce, tb, fr, rest, hh, he⟩ := h.G9 hp
  obtain ⟨k1, k2, k3, k4⟩ := CX hs hk
  have hl' : ((p.drop o).take k.w).length = k.w := iM hk
  have hsz : ce.size = p.length + rest.length := by rw [← Array.length_toList, he]; simp
  refine uz (by rw [h1, k1]) (by rw [h2, k2]) hh (by omega) ?_
  rw [he, ← List.drop_drop, List.drop_append_of_le_length (by omega)]
  rw [List.drop_append_of_le_length (by rw [List.length_drop]; omega), List.take_append_of_le_length (by rw [List.length_drop, List.length_drop]; omega)]
  rw [List.drop_take] at k4
  rw [List.take_take] at k4
  rwa [Nat.min_eq_left (by omega)] at k4

theorem zV {t i f : Nat} {e bt : Nat} {k : Kd} {xs : List k.den} {cs : List Value} {hl : Option Value} (hn : hl = none) (h : FkR w G hl t i f (.own e bt k) xs cs) :
    ∃ v, cs = [v] ∧ IL G w (.fld t i f) e bt k xs v := by subst hn; exact h

theorem gZ {o : Own} {e bt : Nat} {k : Kd} {xs : List k.den} {v : Value} (h : IL G w o e bt k xs v) : VR G (.list k) xs v := by
  obtain ⟨cs, h1, h2, h3, h4⟩ := h
  refine nN.2 ?_
  rcases h1.2 with ⟨rfl, hn⟩ | ⟨g, cap, cur, rfl, _, hg, hnc, _⟩
  · exact ⟨none, 0, by rw [hn], by omega, .inl (List.eq_nil_of_length_eq_zero hn)⟩
  · have hr := h4 g rfl
    refine ⟨_, cap, rfl, hnc, .inr ⟨g, 0, cs, rfl, ?_, by simpa using h2⟩⟩
    unfold Gh.pre; rw [hr]

def FOR (w : World) (G : Gh) (L : List LS) (t i : Nat) : FO → List Value → Prop
  | .p r, cs => Kr G r.k r.x cs
  | .own f k xs, cs => aK t i f L = none → Kr G (.list k) xs cs
  | .mp f, cs => ∃ r, cs = [.map (some r)] ∧ G.role r = .fld t i f

def FO.wd : FO → Nat
  | .p r => r.k.w
  | _ => 1
def FO.agg : FO → Bool
  | .p r => r.k.agg
  | _ => false

theorem rE {hl : Option Value} {t i f : Nat} {fk : Fk} {x : fk.den} {cs : List Value} (h : FkR w G hl t i f fk x cs) : cs.length = fk.w := by
  cases fk with
  | p k => exact iM h
  | own e bt k =>
    cases hl with
    | some v => have h : cs = [v] := h; subst h; rfl
    | none => obtain ⟨v, rfl, _⟩ := h; rfl
  | omap kk kv => obtain ⟨r, es, cl, rfl, _⟩ := h; rfl

theorem IW {ag : Bool} {sz t i : Nat} : ∀ {fs : List Fk} {x : az fs} {o f : Nat} {r : FO} {cs : List Value}, JY ag sz fs x o f = some r → pR w G L t i f fs x cs →
    r.wd = sz ∧ r.agg = ag ∧ o + r.wd ≤ cs.length ∧ FOR w G L t i r ((cs.drop o).take r.wd)
  | [], _, _, _, _, _, h, _ => by simp [JY] at h
  | .p k :: fs, x, o, f, r, cs, h, ho => by
    obtain ⟨c1, c2, rfl, h1, h2⟩ := ho
    have hl := iM h1
    unfold JY at h
    split at h
    · rename_i hlt
      have hlt' : o < k.w := Nat.le_of_ble_eq_true hlt
      split at h
      · rename_i y hy
        simp only [Option.some.injEq] at h; subst h
        obtain ⟨k1, k2, k3, k4⟩ := CX hy h1
        refine ⟨k1, k2, by simp only [FO.wd, List.length_append]; omega, ?_⟩
        simp only [FO.wd, FOR]
        rw [List.drop_append_of_le_length (by omega), List.take_append_of_le_length (by simp; omega)]
        exact k4
      · simp at h
    · rename_i hlt
      have hge : k.w ≤ o := by
        rcases Nat.lt_or_ge o k.w with h' | h'
        · have : Nat.blt o k.w = true := Nat.ble_eq_true_of_le h'
          rw [hlt] at this; simp at this
        · exact h'
      obtain ⟨k1, k2, k3, k4⟩ := IW h h2
      refine ⟨k1, k2, by simp; omega, ?_⟩
      rw [List.drop_append, List.drop_of_length_le (by omega), List.nil_append, hl]
      exact k4
  | .own e bt k :: fs, x, o, f, r, cs, h, ho => by
    obtain ⟨c1, c2, rfl, h1, h2⟩ := ho
    have hl : c1.length = 1 := rE h1
    unfold JY at h
    split at h
    · rename_i hb
      simp only [Bool.and_eq_true, Bool.not_eq_true'] at hb
      obtain ⟨b1, b2, b3⟩ := hb
      have ho := Nat.eq_of_beq_eq_true b1
      have hs := Nat.eq_of_beq_eq_true b2
      simp only [Option.some.injEq] at h; subst h; subst ho
      refine ⟨hs.symm, by rw [b3]; rfl, by simp [FO.wd]; omega, ?_⟩
      simp only [FO.wd, FOR, List.drop_zero]
      rw [List.take_append_of_le_length (by omega), List.take_of_length_le (by omega)]
      intro hn
      obtain ⟨v, rfl, hv⟩ := zV hn h1
      have := gZ hv
      simpa [VR, Kd.agg] using this
    · split at h
      · simp at h
      · rename_i hb
        have ho := Nat.ne_of_beq_eq_false hb
        obtain ⟨k1, k2, k3, k4⟩ := IW h h2
        refine ⟨k1, k2, by simp; omega, ?_⟩
        rw [List.drop_append, List.drop_of_length_le (by omega), List.nil_append, hl]
        exact k4
  | .omap kk kv :: fs, x, o, f, r, cs, h, ho => by
    obtain ⟨c1, c2, rfl, h1, h2⟩ := ho
    have hl : c1.length = 1 := rE h1
    unfold JY at h
    split at h
    · rename_i hb
      simp only [Bool.and_eq_true, Bool.not_eq_true'] at hb
      obtain ⟨b1, b2, b3⟩ := hb
      have ho := Nat.eq_of_beq_eq_true b1
      have hs := Nat.eq_of_beq_eq_true b2
      simp only [Option.some.injEq] at h; subst h; subst ho
      refine ⟨hs.symm, by rw [b3]; rfl, by simp [FO.wd]; omega, ?_⟩
      simp only [FO.wd, FOR, List.drop_zero]
      rw [List.take_append_of_le_length (by omega), List.take_of_length_le (by omega)]
      obtain ⟨r, es, cl, rfl, hr, _⟩ := h1
      exact ⟨r, rfl, hr⟩
    · split at h
      · simp at h
      · rename_i hb
        have ho := Nat.ne_of_beq_eq_false hb
        obtain ⟨k1, k2, k3, k4⟩ := IW h h2
        refine ⟨k1, k2, by simp; omega, ?_⟩
        rw [List.drop_append, List.drop_of_length_le (by omega), List.nil_append, hl]
        exact k4

theorem Holds.at (h : Holds w G T L) {b t i : Nat} {fs : List Fk} {x : az fs} (hr : G.role b = .obj t i) (ho : og T t i fs x) :
    ∃ ce ty, w.heap[b]? = some (.cells ce ty (0, 0)) ∧ pR w G L t i 0 fs x ce.toList := by
  have hb := h.block b
  unfold bJ at hb
  rw [hr] at hb
  obtain ⟨tab, x', ce, ty, h1, h2, h3, h4⟩ := hb
  obtain ⟨xs, h5, h6⟩ := ho
  rw [h1] at h5
  simp only [Option.some.injEq] at h5; subst h5
  simp only at h2
  rw [h2] at h6
  simp only [Option.some.injEq] at h6; subst h6
  exact ⟨ce, ty, h3, h4⟩

theorem GV (h : Holds w G T L) {ty t i off : Nat} {v : Value} {sz : Nat} {ag : Bool} {fs : List Fk} {x : az fs} {r : FO} (hv : EnR G (.fldA t i off) v)
    (h1 : fA P ty = some sz) (h2 : AB P ty = some ag) (hs : JY ag sz fs x off 0 = some r) (ho : og T t i fs x) :
    (∀ k z, r = .p ⟨k, z⟩ → ∃ u, (Instr.loadAt ty v).run P w = .ok u w ∧ EnR G (.kv k z) u) ∧
    (∀ f k xs, r = .own f k xs → aK t i f L = none → ∃ u, (Instr.loadAt ty v).run P w = .ok u w ∧ EnR G (.kv (.list k) xs) u) ∧
    (∀ f, r = .mp f → ∃ u, (Instr.loadAt ty v).run P w = .ok u w ∧ EnR G (.fm t i f) u) := by
  obtain ⟨b, hb, rfl⟩ := hv
  obtain ⟨ce, tb, hh, hob⟩ := h.at hb ho
  obtain ⟨k1, k2, k3, k4⟩ := IW hs hob
  rw [Array.length_toList] at k3
  refine ⟨?_, ?_, ?_⟩
  · intro k z hr; subst hr
    exact uz (by rw [h1, ← k1]; rfl) (by rw [h2, ← k2]; rfl) hh k3 k4
  · intro f k xs hr hn; subst hr
    exact uz (k := .list k) (x := xs) (by rw [h1, ← k1]; rfl) (by rw [h2, ← k2]; rfl) hh k3 (k4 hn)
  · intro f hr; subst hr
    obtain ⟨r, hc, hr⟩ := k4
    have hg : ce[off]? = some (.map (some r)) := by
      have h3 : ((ce.toList.drop off).take 1)[0]? = some (.map (some r)) := by rw [show FO.wd (.mp f) = 1 from rfl] at hc; rw [hc]; rfl
      simpa using h3
    have hc : w.cell? ⟨b, off, none⟩ = some (.map (some r)) := by rw [vS hh]; exact hg
    have h2' : AB P ty = some false := by rw [h2, ← k2]; rfl
    exact ⟨_, by simp [Instr.loadAt, Instr.sureAddr, loadVar, wL h2', hc], r, rfl, hr⟩

theorem MZ (h : Holds w G T L) {ty : TypeId} {e : En} {A : List Adv} {e' : En} {O : List Prop} {A' : List Adv} {v : Value} (hv : EnR G e v)
    (he : Be P T L ty e A = some (e', O, A')) (hO : wP O) : ∃ u, (Instr.loadAt ty v).run P w = .ok u w ∧ EnR G e' u := by
  unfold Be at he
  split at he
  · rename_i sz ag h1 h2
    split at he
    · split at he
      · rename_i k' z hs
        simp only [Option.some.injEq, Prod.mk.injEq] at he
        obtain ⟨rfl, rfl, rfl⟩ := he
        exact YF h hv h1 h2 hs
      · simp at he
    · split at he
      · rename_i t i off fs x A''
        split at he
        · rename_i k z hs
          simp only [Option.some.injEq, Prod.mk.injEq] at he
          obtain ⟨rfl, rfl, rfl⟩ := he
          exact (GV h hv h1 h2 hs hO.1).1 _ _ rfl
        · rename_i f k xs hs
          simp only [Option.some.injEq, Prod.mk.injEq] at he
          obtain ⟨rfl, rfl, rfl⟩ := he
          exact (GV h hv h1 h2 hs hO.1).2.1 _ _ _ rfl hO.2.1
        · rename_i f hs
          simp only [Option.some.injEq, Prod.mk.injEq] at he
          obtain ⟨rfl, rfl, rfl⟩ := he
          exact (GV h hv h1 h2 hs hO.1).2.2 _ rfl
        · simp at he
      · simp at he
    · rename_i b off
      split at he
      · rename_i j k x A''
        split at he
        · rename_i k' z hs
          simp only [Option.some.injEq, Prod.mk.injEq] at he
          obtain ⟨rfl, rfl, rfl⟩ := he
          simp only [EnR] at hv; subst hv
          have hl := h.loc _ (List.mem_of_getElem? hO.1)
          obtain ⟨hr, ce, tb, hh, hk⟩ := hl
          obtain ⟨k1, k2, k3, k4⟩ := CX hs hk
          rw [Array.length_toList] at k3
          exact uz (by rw [h1, k1]) (by rw [h2, k2]) hh k3 k4
        · simp at he
      · simp at he
    · simp at he
  · simp at he
end
end Go.Proofs.YtbnmhjobnepajaaGreat.M


namespace Go.Proofs.YtbnmhjobnepajaaGreat.M

section
variable {P : Program} {w : World} {G : Gh} {T : Tabs} {L : List LS}

theorem extract_mk (s : List UInt8) (a b : Nat) : (⟨s.toArray⟩ : ByteArray).extract a b = ⟨((s.take b).drop a).toArray⟩ := by
  apply ByteArray.ext
  simp [ByteArray.data_extract, List.extract_eq_take_drop, List.drop_take]

theorem qR {k : Kd} {xs : List k.den} {v : Value} (h : VR G (.list k) xs v) : ∃ A c, v = .slice A xs.length c ∧ xs.length ≤ c ∧ (xs = [] ∨ ∃ b off p, A = some ⟨b, off, none⟩ ∧ G.pre b = some p ∧ jQ (Kr G k) k.w xs (p.drop off)) := nN.1 h

theorem Yw {ty el : TypeId} {k : Kd} {xs : List k.den} {n : Int} {kn : IntKind} {k' : Kd} {y : k'.den} {v : Value} {sz : Nat} (hu : P.underlying ty = some (.slice el)) (hs : fA P el = some sz)
    (hw : sz = k.w) (hw0 : 0 < k.w) (hv : VR G (.list k) xs v) (hi : Jl k xs n k' y) :
    ∃ u, (Instr.indexAt ty v (.int kn n)).run P w = .ok u w ∧ EnR G (.elA k' y 0) u := by
  obtain ⟨h0, hi⟩ := hi
  rw [List.getElem?_map] at hi
  obtain ⟨x, hx, he⟩ := Option.map_eq_some_iff.1 hi
  obtain ⟨rfl, he⟩ := KV.mk.inj he
  have he := eq_of_heq he
  subst he
  have hlt := (List.getElem?_eq_some_iff.1 hx).1
  obtain ⟨A, c, rfl, hc, hr⟩ := qR hv
  rcases hr with hr | ⟨b, off, p, rfl, hp, hr⟩
  · subst hr; simp at hlt
  · obtain ⟨h1, h2⟩ := KZ hr hx
    rw [List.drop_drop] at h1 h2
    refine ⟨.pointer (some ⟨b, off + n.toNat * k.w, none⟩), ?_, b, off + n.toNat * k.w, p, rfl, hp, by rw [List.length_drop] at h1; omega, h2⟩
    have hn : 0 ≤ n ∧ n < (xs.length : Int) := ⟨h0, by omega⟩
    have ht : (xs.length ≤ 1 && false) = false := by simp
    simp [Instr.indexAt, asIntOf, underlying, hu, run_sizeOf hs, hn, addr_add, hw]

theorem UN {ty : TypeId} {e : En} {n : Int} {kn : IntKind} {A : List Adv} {e' : En} {O : List Prop} {A' : List Adv} {v : Value} (hv : EnR G e v)
    (he : X3 P ty e n A = some (e', O, A')) (hO : wP O) : ∃ u, (Instr.indexAt ty v (.int kn n)).run P w = .ok u w ∧ EnR G e' u := by
  unfold X3 at he
  split at he
  · rename_i el hu
    split at he
    · rename_i k' y A''
      split at he
      · split at he
        · rename_i k xs sz hs
          split at he
          · rename_i hb
            simp only [Bool.and_eq_true] at hb
            simp only [Option.some.injEq, Prod.mk.injEq] at he
            obtain ⟨rfl, rfl, rfl⟩ := he
            exact Yw hu hs (Nat.eq_of_beq_eq_true hb.1) (Nat.le_of_ble_eq_true hb.2) hv hO.1
          · simp at he
        · simp at he
      · split at he
        · rename_i u k xs sz hs
          split at he
          · rename_i hb
            simp only [Bool.and_eq_true] at hb
            simp only [Option.some.injEq, Prod.mk.injEq] at he
            obtain ⟨rfl, rfl, rfl⟩ := he
            exact Yw hu hs (Nat.eq_of_beq_eq_true hb.1) (Nat.le_of_ble_eq_true hb.2) hv.2 hO.1
          · simp at he
        · simp at he
      · simp at he
    · simp at he
  · simp at he

theorem I5 {M : Operand → Option En} {ρ : Operand → Value} (hM : ∀ x e, M x = some e → EnR G e (ρ x)) {x : Option Operand} {r : Option Int} (h : TQ M x = some r) :
    ∃ k, x.map ρ = r.map (Value.int k) := by
  cases x with
  | none => simp [TQ] at h; subst h; exact ⟨.i64, rfl⟩
  | some x =>
    simp only [TQ] at h
    split at h
    · rename_i k n hx
      simp only [Option.some.injEq] at h; subst h
      exact ⟨k, by simp [unI (hM _ _ hx)]⟩
    · simp at h

theorem zh {k : IntKind} {n : Int} {y : Nat} {code : BoundsCode} (h : 0 ≤ n ∧ n ≤ (y : Int)) : (Instr.sliceBound (.int k n) y code).run P w = .ok n.toNat w := by
  simp [Instr.sliceBound, asIntOf, h]

theorem DY {isS : Bool} {len cap : Nat} {lo hi : Option Int} {k1 k2 : IntKind} (hc : len ≤ cap) (h : slB len lo hi) :
    (Instr.sliceBounds isS len cap (lo.map (Value.int k1)) (hi.map (Value.int k2)) none).run P w = .ok ((lo.map Int.toNat).getD 0, (hi.map Int.toNat).getD len, cap) w := by
  unfold slB at h
  cases lo with
  | none =>
    cases hi with
    | none => simp [Instr.sliceBounds]
    | some b =>
      simp only at h
      have hb : 0 ≤ b ∧ b ≤ (cap : Int) := by omega
      simp [Instr.sliceBounds, zh hb]
  | some a =>
    cases hi with
    | none =>
      simp only at h
      simp [Instr.sliceBounds, zh h]
    | some b =>
      simp only at h
      have hb : 0 ≤ b ∧ b ≤ (cap : Int) := by omega
      have ha : 0 ≤ a ∧ a ≤ (b.toNat : Int) := by omega
      simp [Instr.sliceBounds, zh hb, zh ha]

theorem Zi {α : Type} (s : List α) {lo hi : Option Int} (h : slB s.length lo hi) : slL s lo hi = (s.take ((hi.map Int.toNat).getD s.length)).drop ((lo.map Int.toNat).getD 0) := by
  cases lo <;> cases hi <;> simp [slL]

theorem aaK {α : Type} (s : List α) {lo hi : Option Int} (h : slB s.length lo hi) : (slL s lo hi).length = (hi.map Int.toNat).getD s.length - (lo.map Int.toNat).getD 0 ∧ (lo.map Int.toNat).getD 0 ≤ (hi.map Int.toNat).getD s.length ∧ (hi.map Int.toNat).getD s.length ≤ s.length := by
  cases lo <;> cases hi <;> simp [slL, slB] at h ⊢ <;> omega

theorem WE {ty : TypeId} {s : List UInt8} {lo hi : Option Int} {k1 k2 : IntKind} (hu : P.underlying ty = some .string) (h : slB s.length lo hi) :
    (Instr.sliceAt ty (.string ⟨s.toArray⟩) (lo.map (Value.int k1)) (hi.map (Value.int k2)) none).run P w = .ok (.string ⟨(slL s lo hi).toArray⟩) w := by
  unfold Instr.sliceAt
  rw [bM hu]
  simp only [Instr.slice]
  rw [bM hu]
  simp only [Option.isSome_none, Bool.false_eq_true, if_false, Sem.run_bind, size_mk, DY (P := P) (w := w) (isS := false) (k1 := k1) (k2 := k2) (Nat.le_refl _) h, Result.andThen_ok]
  rw [Zi s h, extract_mk]
  rfl

theorem Lp {ty el : TypeId} {k : Kd} {xs : List k.den} {v : Value} {lo hi : Option Int} {k1 k2 : IntKind} {sz : Nat} (hu : P.underlying ty = some (.slice el)) (hs : fA P el = some sz) (hw : sz = k.w)
    (hv : VR G (.list k) xs v) (h : slB xs.length lo hi) :
    ∃ u, (Instr.sliceAt ty v (lo.map (Value.int k1)) (hi.map (Value.int k2)) none).run P w = .ok u w ∧ VR G (.list k) (slL xs lo hi) u := by
  obtain ⟨A, c, rfl, hc, hr⟩ := qR hv
  obtain ⟨hl, hl1, hl2⟩ := aaK xs h
  refine ⟨.slice (if c = (lo.map Int.toNat).getD 0 then A else A.map (·.add ((lo.map Int.toNat).getD 0 * sz))) (slL xs lo hi).length (c - (lo.map Int.toNat).getD 0), ?_, ?_⟩
  · unfold Instr.sliceAt
    rw [bM hu]
    simp only [Instr.slice]
    rw [bM hu]
    simp only [Sem.run_bind, DY (P := P) (w := w) (isS := true) (k1 := k1) (k2 := k2) hc h, Result.andThen_ok, run_sizeOf hs, hl]
    rfl
  · refine nN.2 ⟨_, _, rfl, by omega, ?_⟩
    by_cases he : slL xs lo hi = []
    · exact .inl he
    · right
      have hne : (slL xs lo hi).length ≠ 0 := fun h0 => he (List.eq_nil_of_length_eq_zero h0)
      rcases hr with hr | ⟨b, off, p, rfl, hp, hr⟩
      · subst hr; exfalso; apply he; cases lo <;> cases hi <;> simp [slL]
      · refine ⟨b, off + (lo.map Int.toNat).getD 0 * k.w, p, ?_, hp, ?_⟩
        · rw [if_neg (by omega)]
          simp [addr_add, hw]
        · rw [Zi xs h, ← List.drop_drop]
          exact NS _ (NV _ hr)

theorem UO {ty : TypeId} {e : En} {lo hi : Option Int} {k1 k2 : IntKind} {A : List Adv} {e' : En} {O : List Prop} {A' : List Adv} {v : Value} (hv : EnR G e v)
    (he : VT P ty e lo hi A = some (e', O, A')) (hO : wP O) : ∃ u, (Instr.sliceAt ty v (lo.map (Value.int k1)) (hi.map (Value.int k2)) none).run P w = .ok u w ∧ EnR G e' u := by
  unfold VT at he
  split at he
  · rename_i s hu
    simp only [Option.some.injEq, Prod.mk.injEq] at he
    obtain ⟨rfl, rfl, rfl⟩ := he
    obtain rfl := unS hv
    exact ⟨_, WE hu hO.1, mkS⟩
  · rename_i hu
    split at he
    · rename_i sz hs
      split at he
      · rename_i hb
        simp only [Option.some.injEq, Prod.mk.injEq] at he
        obtain ⟨rfl, rfl, rfl⟩ := he
        exact Lp hu hs (Nat.eq_of_beq_eq_true hb) hv hO.1
      · simp at he
    · simp at he
  · rename_i hu
    split at he
    · rename_i sz hs
      split at he
      · rename_i hb
        simp only [Option.some.injEq, Prod.mk.injEq] at he
        obtain ⟨rfl, rfl, rfl⟩ := he
        exact Lp hu hs (Nat.eq_of_beq_eq_true hb) hv.2 hO.1
      · simp at he
    · simp at he
  · simp at he

theorem Ny {ty : TypeId} {s : List UInt8} {n : Int} {k : IntKind} (hu : P.underlying ty = some .string) (h : 0 ≤ n ∧ n < (s.length : Int)) :
    (Instr.index ty (.string ⟨s.toArray⟩) (.int k n)).run P w = .ok (.int .u8 (btS s n)) w := by
  unfold Instr.index
  have hlt : n.toNat < s.length := by omega
  have hg : (⟨s.toArray⟩ : ByteArray)[n.toNat]? = some s[n.toNat] := by
    rw [getElem?_pos (⟨s.toArray⟩ : ByteArray) n.toNat (by rw [size_mk]; exact hlt)]
    rfl
  simp [asIntOf, underlying, hu, h.1, hg, btS, List.getD_eq_getElem?_getD, List.getElem?_eq_getElem hlt]

theorem Qx {op : BinOp} {t : TypeId} {x y e' : En} {A A' : List Adv} {O : List Prop} {u v : Value} (hx : EnR G x u) (hy : EnR G y v)
    (he : DD P op t x y A = some (e', O, A')) (hO : wP O) (a b : Operand) :
    ∃ r, (do eqGuard op t a b u v; binOp op t u v : Sem Value).run P w = .ok r w ∧ EnR G e' r := by
  unfold DD at he
  split at he
  · split at he
    · rename_i hk; subst hk
      simp only [Option.some.injEq, Prod.mk.injEq] at he
      obtain ⟨rfl, rfl, rfl⟩ := he
      obtain rfl := unI hx; obtain rfl := unI hy
      exact ⟨_, by simp [eqGuard, binOp, Op.intDiv, hO.1], mkI⟩
    · simp at he
  · split at he
    · rename_i hk; subst hk
      simp only [Option.some.injEq, Prod.mk.injEq] at he
      obtain ⟨rfl, rfl, rfl⟩ := he
      obtain rfl := unI hx; obtain rfl := unI hy
      exact ⟨_, by simp [eqGuard, binOp, Op.intDiv, hO.1], mkI⟩
    · simp at he
  · simp only [Option.some.injEq, Prod.mk.injEq] at he
    obtain ⟨rfl, rfl, rfl⟩ := he
    obtain rfl := unI hx; obtain rfl := unI hy
    have h0 := hO.1
    exact ⟨_, by simp only [eqGuard, binOp, Op.shift, if_neg (Int.not_lt.2 h0)]; rfl, mkI⟩
  · simp only [Option.some.injEq, Prod.mk.injEq] at he
    obtain ⟨rfl, rfl, rfl⟩ := he
    obtain rfl := unI hx; obtain rfl := unI hy
    have h0 := hO.1
    exact ⟨_, by simp only [eqGuard, binOp, Op.shift, if_neg (Int.not_lt.2 h0)]; rfl, mkI⟩
  · rename_i a' b'
    simp only [Option.some.injEq, Prod.mk.injEq] at he
    obtain ⟨rfl, rfl, rfl⟩ := he
    obtain rfl := unS hx; obtain rfl := unS hy
    have h0 := hO.1
    have h1 : ¬ (((a'.length + b'.length : Nat) : Int) > IntKind.i64.max) := by
      have : IntKind.i64.max = 9223372036854775807 := by decide
      rw [this]; omega
    refine ⟨.string (⟨a'.toArray⟩ ++ ⟨b'.toArray⟩), ?_, ?_⟩
    · simp only [eqGuard, binOp, Op.stringOp, size_mk, if_neg h1]; rfl
    · have : (⟨a'.toArray⟩ ++ ⟨b'.toArray⟩ : ByteArray) = ⟨(a' ++ b').toArray⟩ := by
        apply ByteArray.ext; simp
      rw [this]; exact mkS
  · split at he
    · rename_i hb
      simp only [Option.some.injEq, Prod.mk.injEq] at he
      obtain ⟨rfl, rfl, rfl⟩ := he
      obtain ⟨r, h1, h2⟩ := Xp (P := P) hx hy hb
      exact ⟨r, by rw [JH hx hy hb]; exact h1 w, h2⟩
    · simp at he

theorem um : ∀ {k : Kd} {cs r : List Value}, lG k cs = some r → ∃ c1, cs = c1 ++ r ∧ Kr G k (fB k) c1
  | .unit, cs, r, h => by simp [lG] at h; subst h; exact ⟨[], rfl, rfl⟩
  | .int k, cs, r, h => by
    unfold lG at h
    split at h
    · split at h
      · rename_i hb
        obtain ⟨rfl, rfl⟩ := hb
        simp only [Option.some.injEq] at h; subst h
        exact ⟨[_], rfl, rfl⟩
      · simp at h
    · simp at h
  | .bool, cs, r, h => by
    unfold lG at h
    split at h
    · split at h
      · rename_i hb
        subst hb
        simp only [Option.some.injEq] at h; subst h
        exact ⟨[_], rfl, rfl⟩
      · simp at h
    · simp at h
  | .str, cs, r, h => by
    unfold lG at h
    split at h
    · rename_i s r'
      split at h
      · rename_i hs
        simp only [Option.some.injEq] at h; subst h
        refine ⟨[.string s], rfl, ?_⟩
        show [Value.string s] = [.string ⟨#[]⟩]
        have : s.data = #[] := by
          apply Array.ext'
          rw [hs]
        cases s; simp at this; subst this; rfl
      · simp at h
    · simp at h
  | .ptr t, cs, r, h => by
    unfold lG at h
    split at h
    · simp only [Option.some.injEq] at h; subst h
      exact ⟨[_], rfl, _, rfl, rfl⟩
    · simp at h
  | .list k, cs, r, h => by
    unfold lG at h
    split at h
    · simp only [Option.some.injEq] at h; subst h
      exact ⟨[_], rfl, none, 0, rfl, Nat.zero_le _, .inl rfl⟩
    · simp at h
  | .pair a b, cs, r, h => by
    unfold lG at h
    split at h
    · rename_i r1 h1
      obtain ⟨c1, rfl, k1⟩ := um h1
      obtain ⟨c2, rfl, k2⟩ := um h
      exact ⟨c1 ++ c2, by simp, c1, c2, rfl, k1, k2⟩
    · simp at h

theorem CG {k : Kd} {v : Value} (h : isZero k v = true) : VR G k (fB k) v := by
  unfold isZero at h
  split at h
  · rename_i cs ha
    split at h
    · rename_i hz
      obtain ⟨c1, hc, hk⟩ := um (G := G) hz
      simp only [VR, ha]
      exact ⟨cs, rfl, by rw [hc]; simpa using hk⟩
    · simp at h
  · simp at h
  · rename_i ha _
    split at h
    · rename_i hz
      obtain ⟨c1, hc, hk⟩ := um (G := G) hz
      simp only [List.append_nil] at hc
      subst hc
      unfold VR
      split
      · rename_i hb; simp_all
      · exact hk
    · simp at h
  · simp at h

theorem bytes_beq (x y : List UInt8) : ((⟨x.toArray⟩ : ByteArray) == ⟨y.toArray⟩) = (x == y) := by
  show (x.toArray == y.toArray) = (x == y)
  simp

theorem GR {kk : Kd} {d : TypeDesc} {x y : kk.den} {u v : Value} (hk : pO kk (some d) = true) (hx : VR G kk x u) (hy : VR G kk y v) :
    Instr.sameNow d u v = some (tZ kk x y) := by
  cases kk <;> cases d <;> simp [pO] at hk
  · obtain rfl := Az.1 hx; obtain rfl := Az.1 hy
    simp [Instr.sameNow, tZ]
  · obtain rfl := qw.1 hx; obtain rfl := qw.1 hy; rfl
  · obtain rfl := AA.1 hx; obtain rfl := AA.1 hy
    simp only [Instr.sameNow, tZ, bytes_beq]

def mapIdx (kk kv : Kd) (key : kk.den) : List (kk.den × kv.den) → Nat → Option (Nat × kv.den)
  | [], _ => none
  | (k, v) :: r, i => (match tZ kk key k with
    | true => some (i, v)
    | false => mapIdx kk kv key r (i + 1))

theorem KD {kk kv : Kd} {key : kk.den} : ∀ {m : List (kk.den × kv.den)} {i : Nat}, (mapIdx kk kv key m i).map Prod.snd = bZ kk kv key m
  | [], _ => rfl
  | (k, v) :: r, i => by
    simp only [mapIdx, bZ]
    cases tZ kk key k with
    | true => rfl
    | false => exact KD

theorem JV {kk kv : Kd} {d : TypeDesc} {key : kk.den} {u : Value} (hk : pO kk (some d) = true) (hx : VR G kk key u) :
    ∀ {m : List (kk.den × kv.den)} {es : List MapEntry} {i : Nat}, TL G kk kv m es →
      (∃ j z v, mapIdx kk kv key m i = some (j, z) ∧ Instr.findNow d u es i = some (some (j, v)) ∧ VR G kv z v) ∨
      (mapIdx kk kv key m i = none ∧ Instr.findNow d u es i = some none)
  | [], [], i, _ => .inr ⟨rfl, rfl⟩
  | (k, z) :: m, e :: es, i, ⟨⟨h1, h2⟩, h3⟩ => by
    have hs := GR hk hx h1
    simp only [mapIdx, Instr.findNow, hs]
    cases hq : tZ kk key k with
    | true => exact .inl ⟨i, z, e.val, rfl, rfl, h2⟩
    | false => exact JV hk hx h3
  | [], _ :: _, _, h => h.elim
  | _ :: _, [], _, h => h.elim

theorem AV {kk : Kd} {kt : TypeId} {d : TypeDesc} {key : kk.den} {u : Value} {b : Bool} (hd : P.underlying kt = some d) (hk : pO kk (some d) = true) (hx : VR G kk key u) :
    (Instr.checkKey b 10000 kt u).run P w = .ok () w := by
  rw [show (10000 : Nat) = 9999 + 1 from rfl]
  unfold Instr.checkKey
  rw [bM hd]
  cases kk <;> cases d <;> simp [pO] at hk
  · obtain rfl := Az.1 hx; rfl
  · obtain rfl := qw.1 hx; rfl
  · obtain rfl := AA.1 hx; rfl

theorem QW {ty : TypeId} {ok : Bool} {kk kv : Kd} {key : kk.den} {m : List (kk.den × kv.den)} {r : Nat} {es : Array MapEntry} {cl : Nat} {u : Value} {e' : En}
    (he : U2 P ty ok kk kv key m = some e') (hh : w.heap[r]? = some (.map es cl)) (hm : TL G kk kv m es.toList) (hu : VR G kk key u) :
    ∃ v, (Instr.lookup ty (.map (some r)) u ok).run P w = .ok v w ∧ EnR G e' v := by
  unfold U2 at he
  split at he
  · rename_i kt et hty
    split at he
    · rename_i z hk hz
      split at he
      · rename_i hzero
        cases hd : P.underlying kt with
        | none => rw [hd] at hk; cases kk <;> simp [pO] at hk
        | some d =>
          rw [hd] at hk
          have hz0 := CG (G := G) hzero
          have hrz : (zeroValue et).run P w = .ok z w := by
            unfold zeroOf at hz
            split at hz
            · rename_i i hi; simp [zeroValue, typeInfo, hi, hz]
            · simp at hz
          have hck : ∀ b, (Instr.checkKey b 10000 kt u).run P w = .ok () w := fun b => AV hd hk hu
          have hgo : (getObj r).run P w = .ok (.map es cl) w := by simp [getObj, Sem.run, hh]
          have hidx := KD (kk := kk) (kv := kv) (key := key) (m := m) (i := 0)
          rcases JV (i := 0) hk hu hm with ⟨j, y, v, h1, h2, h3⟩ | ⟨h1, h2⟩
          · have hf : (Instr.findKey kt u es.toList).run P w = .ok (some (j, v)) w := by simp [Instr.findKey, underlying, hd, h2]
            rw [h1] at hidx
            simp only [Option.map_some] at hidx
            rw [← hidx] at he
            unfold Instr.lookup
            rw [bM hty]
            cases ok with
            | true =>
              simp only [Option.some.injEq] at he; subst he
              exact ⟨.tuple #[v, .bool true], by simp [hgo, hck, hf], #[v, .bool true], rfl, h3, qw.2 rfl, trivial⟩
            | false =>
              simp only [Option.some.injEq] at he; subst he
              exact ⟨v, by simp [hgo, hck, hf], h3⟩
          · have hf : (Instr.findKey kt u es.toList).run P w = .ok none w := by simp [Instr.findKey, underlying, hd, h2]
            rw [h1] at hidx
            simp only [Option.map_none] at hidx
            rw [← hidx] at he
            unfold Instr.lookup
            rw [bM hty]
            cases ok with
            | true =>
              simp only [Option.some.injEq] at he; subst he
              exact ⟨.tuple #[z, .bool false], by simp [hgo, hck, hf, hrz], #[z, .bool false], rfl, hz0, qw.2 rfl, trivial⟩
            | false =>
              simp only [Option.some.injEq] at he; subst he
              exact ⟨z, by simp [hgo, hck, hf, hrz], hz0⟩
      · simp at he
    · simp at he
  · simp at he

theorem Px {t i : Nat} : ∀ {fs : List Fk} {x : az fs} {f g : Nat} {mp : MP} {cs : List Value}, FP fs x f = some mp → pR w G L t i g fs x cs →
    ∃ r es cl, G.role r = .fld t i (g + f) ∧ w.heap[r]? = some (.map es cl) ∧ yz G mp.kk mp.kv mp.m es.toList cl
  | [], _, _, _, _, _, h, _ => by simp [FP] at h
  | .p k :: fs, x, 0, g, mp, cs, h, ho => by simp [FP] at h
  | .own e bt k :: fs, x, 0, g, mp, cs, h, ho => by simp [FP] at h
  | .omap kk kv :: fs, x, 0, g, mp, cs, h, ho => by
    simp only [FP, Option.some.injEq] at h; subst h
    obtain ⟨c1, c2, rfl, ⟨r, es, cl, rfl, h1, h2, h3⟩, _⟩ := ho
    exact ⟨r, es, cl, h1, h2, h3⟩
  | fk :: fs, x, f + 1, g, mp, cs, h, ho => by
    obtain ⟨c1, c2, rfl, _, ho⟩ := ho
    have h' : FP fs x.2 f = some mp := by cases fk <;> simpa [FP] using h
    have := Px h' ho
    rwa [show g + (f + 1) = g + 1 + f by omega]

theorem ES (h : Holds w G T L) {e : En} {A A' : List Adv} {O : List Prop} {mp : MP} {v : Value} (hv : EnR G e v) (he : Na T L e A = some (mp, O, A')) (hO : wP O) :
    ∃ r es cl, v = .map (some r) ∧ w.heap[r]? = some (.map es cl) ∧ yz G mp.kk mp.kv mp.m es.toList cl := by
  unfold Na at he
  split at he
  · rename_i t i f fs x A''
    split at he
    · rename_i mp' hm
      simp only [Option.some.injEq, Prod.mk.injEq] at he
      obtain ⟨rfl, rfl, rfl⟩ := he
      obtain ⟨r, rfl, hr⟩ := hv
      obtain ⟨xs, h1, h2⟩ := hO.1
      obtain ⟨b, hb⟩ := h.ex t _ i h1 (List.getElem?_eq_some_iff.1 h2).1
      obtain ⟨ce, ty, hh, hob⟩ := h.at hb hO.1
      obtain ⟨r', es, cl, k1, k2, k3⟩ := Px hm hob
      rw [Nat.zero_add] at k1
      have := h.finj r r' t i f hr k1
      subst this
      exact ⟨r, es, cl, rfl, k2, k3⟩
    · simp at he
  · rename_i r j r' kk kv m A''
    simp only [Option.some.injEq, Prod.mk.injEq] at he
    obtain ⟨rfl, rfl, rfl⟩ := he
    simp only [EnR] at hv; subst hv
    obtain ⟨rfl, hj⟩ := hO.1
    obtain ⟨hr, es, cl, hh, hm⟩ := h.loc _ (List.mem_of_getElem? hj)
    exact ⟨_, es, cl, rfl, hh, hm⟩
  · simp at he

variable {ρ : Operand → Value} {M : Operand → Option En}

theorem dA {m : Sem Value} {v : Value} {w' : World} (h : m.run P w = .ok v w') : (do pure (Next.value (← m)) : Sem Next).run P w = .ok (.value v) w' := by simp [h]

theorem X5 (h : Holds w G T L) (hM : ∀ x e, M x = some e → EnR G e (ρ x)) {o : Oper} {A A' : List Adv} {e : En} {O : List Prop} (he : X4 P T L M o.op A = some (e, O, A')) (hO : wP O) :
    ∃ v, (execOp ρ o).run P w = .ok (.value v) w ∧ EnR G e v := by
  unfold X4 at he
  split at he
  · rename_i c hop
    split at he
    · rename_i x t hcal hargs hts
      split at he
      · rename_i kt vt e0 hu hx
        split at he
        · rename_i mp O' A'' hmp
          simp only [Option.some.injEq, Prod.mk.injEq] at he
          obtain ⟨rfl, rfl, rfl⟩ := he
          obtain ⟨rr, es, cl, hv, hh, hm⟩ := ES h (hM _ _ hx) hmp hO
          have hop' : o.op = .call { callee := .builtin .len, args := #[x], argTypes := #[t] } := by
            rw [hop]
            congr 1
            cases c with
            | mk ca ar at_ =>
              simp only at hcal hargs hts
              subst hcal
              congr 1
              · rw [← hargs]
              · rw [← hts]
          have hgo : (getObj rr).run P w = .ok (.map es cl) w := by simp [getObj, Sem.run, hh]
          have hlen : es.size = mp.m.length := by rw [← Array.length_toList]; exact hm.1.length.symm
          refine ⟨goInt es.size, ?_, by rw [hlen]; exact mkI⟩
          simp [execOp, hop', resolve, invoke, builtin, Builtin.len_, hv, bM hu, hgo]
        · simp at he
      · simp at he
    · simp at he
  · simp at he

theorem Gs (xs : List Int) : (⟨(bT xs).toArray⟩ : ByteArray) = xs.foldl (fun r n => r.push (UInt8.ofNat n.toNat)) ByteArray.empty := by
  have go : ∀ (xs : List Int) (l : List UInt8), xs.foldl (fun r n => r.push (UInt8.ofNat n.toNat)) (⟨l.toArray⟩ : ByteArray) = ⟨(l ++ bT xs).toArray⟩ := by
    intro xs
    induction xs with
    | nil => intro l; simp [bT]
    | cons x r ih =>
      intro l
      have : (⟨l.toArray⟩ : ByteArray).push (UInt8.ofNat x.toNat) = ⟨(l ++ [UInt8.ofNat x.toNat]).toArray⟩ := by simp [ByteArray.push]
      rw [List.foldl_cons, this, ih]
      simp [bT]
  have := go xs []
  rw [List.nil_append] at this
  exact this.symm

theorem TJ {x : En} {xs : List Int} {v : Value} (hx : EnR G x v) (h : u8L x = some xs) : VR G (.list (.int .u8)) xs v := by
  unfold u8L at h
  split at h
  · simp only [Option.some.injEq] at h; subst h; exact hx
  · simp only [Option.some.injEq] at h; subst h; exact hx.2
  · simp only [Option.some.injEq] at h; subst h
    obtain ⟨b, c, e, n, rfl, hn, hr, hs, _, hrow⟩ := hx
    exact nN.2 ⟨_, n, rfl, Nat.le_of_eq hn.symm, .inr ⟨b, 0, c.toList, rfl, by simp [Gh.pre, hr], by simpa using hrow⟩⟩
  · cases h

theorem VH (h : Holds w G T L) {xs : List Int} {v : Value} (hv : VR G (.list (.int .u8)) xs v) : (Conv.bytesToString v).run P w = .ok (.string ⟨(bT xs).toArray⟩) w := by
  obtain ⟨A, c, rfl, hc, hr⟩ := qR hv
  rw [Gs]
  cases A with
  | none =>
    rcases hr with rfl | ⟨b, off, p, hA, _⟩
    · simp [Conv.bytesToString, Sem.run_pure]
    · cases hA
  | some a =>
    have hl : (loadCells a (xs.map (Value.int .u8)).length).run P w = .ok (xs.map (Value.int .u8)).toArray w := by
      refine run_loadCells_list (P := P) w a (xs.map (Value.int .u8)) (fun j v hj => ?_)
      rw [List.getElem?_map] at hj
      obtain ⟨n, hn, rfl⟩ := Option.map_eq_some_iff.1 hj
      rcases hr with rfl | ⟨b, off, p, hA, hp, hrow⟩
      · simp at hn
      · simp only [Option.some.injEq] at hA; subst hA
        obtain ⟨h1, h2⟩ := KZ hrow hn
        obtain ⟨ce, ty, fr, rest, hb, he⟩ := h.G9 hp
        rw [addr_add, vS hb]
        have hk : (Kd.int IntKind.u8).w = 1 := rfl
        rw [hk, Nat.mul_one] at h1 h2
        rw [List.drop_drop] at h1 h2
        simp only [Kr] at h2
        have h3 : (p.drop (off + j))[0]? = some (.int .u8 n) := by
          have : ((p.drop (off + j)).take 1)[0]? = some (.int .u8 n) := by rw [h2]; rfl
          rw [List.getElem?_take_of_lt (by decide)] at this
          exact this
        rw [List.getElem?_drop, Nat.add_zero] at h3
        have hlt := (List.getElem?_eq_some_iff.1 h3).1
        rw [← Array.getElem?_toList, he, List.getElem?_append_left hlt]
        exact h3
    rw [List.length_map] at hl
    exact run_bytesToString w a xs.length c xs hl

theorem Qy (h : Holds w G T L) {src dst : TypeId} {x e : En} {A A' : List Adv} {O : List Prop} {v : Value} (hx : EnR G x v) (he : UM P src dst x A = some (e, O, A')) :
    ∃ u, (convert src dst v).run P w = .ok u w ∧ EnR G e u := by
  unfold UM at he
  split at he
  · rename_i el hs hd
    split at he
    · rename_i xs hu hl
      simp only [Option.some.injEq, Prod.mk.injEq] at he
      obtain ⟨rfl, rfl, rfl⟩ := he
      have hv := TJ hx hl
      have hr := VH (P := P) h hv
      obtain ⟨B, c, rfl, _⟩ := qR hv
      refine ⟨_, ?_, mkS⟩
      unfold convert
      rw [bM hs, bM hd]
      simp only []
      rw [bM hu]
      exact hr
    · cases he
  · cases he

theorem X6 (h : Holds w G T L) (hM : ∀ x e, M x = some e → EnR G e (ρ x)) {o : Oper} {A A' : List Adv} {e : En} {O : List Prop} (he : ev P T L M o.op A = some (e, O, A')) (hO : wP O) :
    ∃ v, (execOp ρ o).run P w = .ok (.value v) w ∧ EnR G e v := by
  unfold ev at he
  split at he
  · rename_i x hop
    split at he
    · rename_i t p hx
      split at he
      · rename_i i A''
        simp only [Option.some.injEq, Prod.mk.injEq] at he
        obtain ⟨rfl, rfl, rfl⟩ := he
        have hp := hO.1
        have hv := hM _ _ hx
        rw [hp] at hv
        obtain ⟨u, hu, b, rfl, hb⟩ := unP hv
        refine ⟨ρ x, ?_, hv⟩
        simp [execOp, hop, hu]
      · simp at he
    · rename_i e0 _ hx
      split at he
      · rename_i e1 hn
        simp only [Option.some.injEq, Prod.mk.injEq] at he
        obtain ⟨rfl, rfl, rfl⟩ := he
        obtain ⟨h1, h2⟩ := Py (hM _ _ hx) hn
        refine ⟨ρ x, ?_, h1⟩
        rcases h2 with ⟨a, ha⟩ | ⟨f, b, c, ha⟩ <;> simp [execOp, hop, ha]
      · simp at he
    · simp at he
  · rename_i ty x hop
    split at he
    · rename_i e0 hx
      obtain ⟨u, h1, h2⟩ := MZ (P := P) h (hM _ _ hx) he hO
      exact ⟨u, by simp only [execOp, hop]; exact dA h1, h2⟩
    · simp at he
  · rename_i ty x i hop
    split at he
    · rename_i e0 k n hx hi
      have hn := unI (hM _ _ hi)
      obtain ⟨u, h1, h2⟩ := UN (P := P) (w := w) (kn := k) (hM _ _ hx) he hO
      exact ⟨u, by simp only [execOp, hop, hn]; exact dA h1, h2⟩
    · simp at he
  · rename_i ty x i hop
    split at he
    · rename_i s k n hu hx hi
      simp only [Option.some.injEq, Prod.mk.injEq] at he
      obtain ⟨rfl, rfl, rfl⟩ := he
      have hs := unS (hM _ _ hx)
      have hn := unI (hM _ _ hi)
      exact ⟨_, by simp only [execOp, hop, hs, hn]; exact dA (Ny hu hO.1), mkI⟩
    · simp at he
  · rename_i ty x lo hi hop
    split at he
    · rename_i e0 a b hx hlo hhi
      obtain ⟨k1, hk1⟩ := I5 hM hlo
      obtain ⟨k2, hk2⟩ := I5 hM hhi
      obtain ⟨u, h1, h2⟩ := UO (P := P) (w := w) (k1 := k1) (k2 := k2) (hM _ _ hx) he hO
      exact ⟨u, by simp only [execOp, hop, hk1, hk2, Option.map_none]; exact dA h1, h2⟩
    · simp at he
  · rename_i op t x y ty hop
    split at he
    · rename_i ex ey hx hy
      obtain ⟨r, h1, h2⟩ := Qx (P := P) (w := w) (hM _ _ hx) (hM _ _ hy) he hO x y
      exact ⟨r, by simp only [execOp, hop]; exact dA h1, h2⟩
    · simp at he
  · rename_i ty x i ok hop
    split at he
    · rename_i e0 kk key hx hi
      split at he
      · rename_i kk' kv m O' A'' hmp
        split at he
        · rename_i hkk
          subst hkk
          split at he
          · rename_i r hr
            simp only [Option.some.injEq, Prod.mk.injEq] at he
            obtain ⟨rfl, rfl, rfl⟩ := he
            obtain ⟨rr, es, cl, hv, hh, hm⟩ := ES h (hM _ _ hx) hmp hO
            obtain ⟨v, h1, h2⟩ := QW (P := P) hr hh hm.1 (hM _ _ hi)
            exact ⟨v, by simp only [execOp, hop, hv]; exact dA h1, h2⟩
          · simp at he
        · simp at he
      · simp at he
    · simp at he
  · rename_i src dst x hop
    split at he
    · rename_i e0 hx
      split at he
      · rename_i r hc
        simp only [Option.some.injEq, Prod.mk.injEq] at he
        obtain ⟨rfl, rfl, rfl⟩ := he
        obtain ⟨u, h1, h2⟩ := SL (P := P) (hM _ _ hx) hc
        exact ⟨u, by simp only [execOp, hop]; exact dA (h1 w), h2⟩
      · obtain ⟨u, h1, h2⟩ := Qy (P := P) h (hM _ _ hx) he
        exact ⟨u, by simp only [execOp, hop]; exact dA h1, h2⟩
    · simp at he
  · split at he
    · rename_i e0 hp
      simp only [Option.some.injEq, Prod.mk.injEq] at he
      obtain ⟨rfl, rfl, rfl⟩ := he
      obtain ⟨v, h1, h2⟩ := TS (P := P) hM hp
      exact ⟨v, h1 w, h2⟩
    · exact X5 (P := P) h hM he hO

end
end Go.Proofs.YtbnmhjobnepajaaGreat.M


namespace Go.Proofs.YtbnmhjobnepajaaGreat.M

section
variable {P : Program} {w : World} {G : Gh} {T : Tabs} {Ls : List LS} {a : Act} {N : Nat} {E cur : Env} {ops : Array Oper} {Q : Exit → Act → World → Prop}

theorem Va {L : Nat → Option En} (hL : vg G a L) {s : Nat} {e : En} (h : ab3 L s = some e) : EnR G e (a.tmps.getD s Go.undef) := by
  unfold ab3 at h
  split at h
  · rename_i e0 h0
    exact Ha hL (hL _ _ h0) h
  · simp at h

theorem Hl (h : Holds w G T Ls) {L : Nat → Option En} (hL : vg G a L) {o : Oper} {A A' : List Adv} {e : En} {O : List Prop} (he : PT P T Ls ops L o A = some (e, O, A')) (hO : wP O) :
    (Region.wanted o (yielded ops a.tmps) = true → ∃ v, (execOp a.eval o).run P w = .ok (.value v) w ∧ EnA G a e v) ∧
    (Region.wanted o (yielded ops a.tmps) = false → EnA G a e Go.undef) := by
  unfold PT at he
  unfold Region.wanted
  split at he
  · rename_i hg
    rw [hg]
    refine ⟨fun _ => ?_, fun hw => by simp at hw⟩
    split at he
    · rename_i c x y hop
      split at he
      · rename_i e0 hp
        simp only [Option.some.injEq, Prod.mk.injEq] at he
        obtain ⟨rfl, rfl, rfl⟩ := he
        rw [← hop] at hp
        obtain ⟨v, h1, h2⟩ := FW hL (by simp) hp
        exact ⟨v, h1 w, kY h2⟩
      · simp at he
    · obtain ⟨v, h1, h2⟩ := X6 h (fun x e hx => dG hL (by simp) hx) he hO
      exact ⟨v, h1, kY h2⟩
  · rename_i j want hg
    rw [hg]
    split at he
    · rename_i sj hj
      split at he
      · rename_i e0 hp
        simp only [Option.some.injEq, Prod.mk.injEq] at he
        obtain ⟨rfl, rfl, rfl⟩ := he
        refine ⟨fun hw => ?_, fun hw => ?_⟩
        · have hs := (iG hj want).1 hw
          obtain ⟨v, h1, h2⟩ := FW hL (wR hL hs) hp
          exact ⟨v, h1 w, fun _ => kY h2, fun hn => (hn hs).elim⟩
        · have hs : ¬ a.tmps.getD sj Go.undef = .bool want := fun hs => by
            have := (iG (a := a) hj want).2 hs
            simp only at hw
            rw [this] at hw; simp at hw
          exact ⟨fun hn => (hs hn).elim, fun _ => rfl⟩
      · split at he
        · rename_i b hb
          have hsb := unB (Va hL hb)
          split at he
          · have hw1 := (iG (a := a) hj true).2 hsb
            refine ⟨fun hw => ?_, fun hw => by simp only at hw; rw [hw1] at hw; simp at hw⟩
            obtain ⟨v, h1, h2⟩ := X6 h (fun x e hx => dG hL (wR hL hsb) hx) he hO
            exact ⟨v, h1, kY h2⟩
          · have hw1 := (iG (a := a) hj false).2 hsb
            refine ⟨fun hw => ?_, fun hw => by simp only at hw; rw [hw1] at hw; simp at hw⟩
            obtain ⟨v, h1, h2⟩ := X6 h (fun x e hx => dG hL (wR hL hsb) hx) he hO
            exact ⟨v, h1, kY h2⟩
          · simp only [Option.some.injEq, Prod.mk.injEq] at he
            obtain ⟨rfl, rfl, rfl⟩ := he
            refine ⟨fun hw => ?_, fun _ => rfl⟩
            have := (iG hj false).1 hw
            rw [hsb] at this; simp at this
          · simp only [Option.some.injEq, Prod.mk.injEq] at he
            obtain ⟨rfl, rfl, rfl⟩ := he
            refine ⟨fun hw => ?_, fun _ => rfl⟩
            have := (iG hj true).1 hw
            rw [hsb] at this; simp at this
        · rename_i hb
          have hsb : a.tmps.getD sj Go.undef = Go.undef := Va hL hb
          simp only [Option.some.injEq, Prod.mk.injEq] at he
          obtain ⟨rfl, rfl, rfl⟩ := he
          refine ⟨fun hw => ?_, fun _ => rfl⟩
          have := (iG hj want).1 hw
          rw [hsb] at this
          exact absurd this (by simp [Go.undef])
        · simp at he
    · simp at he

theorem Ld (h : Holds w G T Ls) (hE : ∀ s e, lk E s = some e → e.plain = true) :
    ∀ {n i : Nat} {a : Act} {cur cur' : Env} {A : List Adv} {O : List Prop}, a.tmps.size = N → a.defers = [] → vg G a (look E cur) → Lc P T Ls ops N E n i cur A = some (cur', O) → wP O →
      (∀ a', a'.tmps.size = N → a'.defers = [] → vg G a' (look E cur') → ed P ops Q (i + n) a' w) → ed P ops Q i a w
  | 0, i, a, cur, cur', A, O, h1, h2, h3, hs, hO, k => by
    cases A with
    | nil =>
      simp only [Lc, Option.some.injEq, Prod.mk.injEq] at hs
      obtain ⟨rfl, rfl⟩ := hs
      exact k a h1 h2 h3
    | cons x A => simp [Lc] at hs
  | n + 1, i, a, cur, cur', A, O, h1, h2, h3, hs, hO, k => by
    unfold Lc at hs
    split at hs
    · rename_i o ho
      split at hs
      · rename_i e O1 A1 he
        have hi : i + 1 + n = i + (n + 1) := by omega
        split at hs
        · rename_i d hd
          split at hs
          · rename_i hc
            split at hs
            · rename_i c O2 hs2
              simp only [Option.some.injEq, Prod.mk.injEq] at hs
              obtain ⟨rfl, rfl⟩ := hs
              obtain ⟨hO1, hO2⟩ := Hu.1 hO
              obtain ⟨k1, k2⟩ := Hl (P := P) h h3 he hO1
              have step : ∀ v, EnA G a e v → ed P ops Q (i + 1) (a.put o.dst v) w := by
                intro v hv
                rw [hd]
                refine Ld h hE (by simp [Act.put, h1]) (by simp [Act.put, h2]) (Jk h1 hE h3 hc hv) hs2 hO2 ?_
                rw [hi]; exact k
              rw [oP ho]
              split
              · rename_i hw
                obtain ⟨v, hr, hv⟩ := k1 hw
                refine .inl ?_
                unfold Oper.wp
                rw [hr]
                exact step v hv
              · rename_i hw
                exact step _ (k2 (by simpa using hw))
            · simp at hs
          · simp at hs
        · rename_i hd
          split at hs
          · rename_i c O2 hs2
            simp only [Option.some.injEq, Prod.mk.injEq] at hs
            obtain ⟨rfl, rfl⟩ := hs
            obtain ⟨hO1, hO2⟩ := Hu.1 hO
            obtain ⟨k1, k2⟩ := Hl (P := P) h h3 he hO1
            have step : ∀ v, EnA G a e v → ed P ops Q (i + 1) (a.put o.dst v) w := by
              intro v hv
              rw [hd]
              refine Ld h hE h1 h2 h3 hs2 hO2 ?_
              rw [hi]; exact k
            rw [oP ho]
            split
            · rename_i hw
              obtain ⟨v, hr, hv⟩ := k1 hw
              refine .inl ?_
              unfold Oper.wp
              rw [hr]
              exact step v hv
            · rename_i hw
              exact step _ (k2 (by simpa using hw))
          · simp at hs
      · simp at hs
    · simp at hs

theorem dD.behind {a0 : Act} (hE : dD G N a0 E) {sl : List Nat} {D : Env} (h1 : a.tmps.size = N) (h2 : a.defers = []) (h3 : vg G a (look E cur)) (hst : stale E sl cur = true)
    (hs : Ih (look E cur) sl = some D) : dD G N a (D ++ E) := by
  refine ⟨h1, h2, ?_⟩
  intro s e h
  rw [jT] at h
  cases hD : lk D s with
  | some e' =>
    rw [hD] at h
    simp at h; subst h
    exact Q7 h3 hs s _ hD
  | none =>
    rw [hD] at h
    simp at h
    have hcur : lk cur s = none := by
      cases hcs : lk cur s with
      | none => rfl
      | some e1 =>
        rcases RF hst s e1 hcs with h4 | h4
        · obtain ⟨e2, he2⟩ := NQ hs s h4
          rw [hD] at he2; simp at he2
        · rw [h4] at h; simp at h
    have hl : look E cur s = some e := by unfold look; rw [hcur]; exact h
    exact iw (hE.plain s e h) (h3 s e hl)

theorem aI (hE : dD G N a E) : vg G a (look E []) := by
  intro s e h
  simp only [look, lk] at h
  exact kY (hE.2.2 s e h)

theorem lC (n : Nat) (A : List Adv) (D : Env) {Os : List Prop} (hO : wP Os) {i : Nat} (hE : dD G N a E) (hH : Holds w G T Ls)
    (hs : aaW P T Ls ops N E n i A (acr D) = some (D, Os)) (k : ∀ a', dD G N a' (D ++ E) → ed P ops Q (i + n) a' w) : ed P ops Q i a w := by
  unfold aaW at hs
  split at hs
  · rename_i c O hc
    split at hs
    · rename_i hst
      split at hs
      · rename_i D' hD
        simp only [Option.some.injEq, Prod.mk.injEq] at hs
        obtain ⟨rfl, rfl⟩ := hs
        exact Ld hH hE.plain hE.1 hE.2.1 (aI hE) hc hO (fun a' h1 h2 h3 => k a' (hE.behind h1 h2 h3 hst hD))
      · simp at hs
    · simp at hs
  · simp at hs

end
end Go.Proofs.YtbnmhjobnepajaaGreat.M


namespace Go.Proofs.YtbnmhjobnepajaaGreat.M

def callable (P : Program) (f : Nat) : Bool :=
  match P.funcs[f]? with
  | some fn => !(fn.name == "runtime.NumGoroutine") && !fn.body.isNone
  | none => false

def aN (L : List LS) : Prop := ∀ t i f, aK t i f L = none

theorem aN.nil : aN [] := fun _ _ _ => rfl

def yl (k : Kd) (e : En) : Option k.den :=
  match e with
  | .kv k' x => if h : k' = k then some (h ▸ x) else none
  | .val (.pointer none) => (match k with
    | .ptr _ => some none
    | _ => none)
  | .val (.slice none 0 0) => (match k with
    | .list _ => some []
    | _ => none)
  | .tl _ k' xs => (match k with
    | .list k'' => if h : k' = k'' then some (h ▸ xs) else none
    | _ => none)
  | .pl k' xs => (match k with
    | .list k'' => if h : k' = k'' then some (h ▸ xs) else none
    | _ => none)
  | .cp k' xs => (match k with
    | .list k'' => if h : k' = k'' then some (h ▸ xs) else none
    | _ => none)
  | .fldA t i 0 => (match k with
    | .ptr t' => if t = t' then some (some i) else none
    | _ => none)
  | _ => none

theorem jJ {G : Gh} {k : Kd} {e : En} {x : k.den} {v : Value} (h : yl k e = some x) (he : EnR G e v) : EnR G (.kv k x) v := by
  unfold yl at h
  split at h
  · split at h
    · rename_i hk; subst hk
      simp only [Option.some.injEq] at h; subst h; exact he
    · simp at h
  · split at h
    · simp only [Option.some.injEq] at h; subst h
      simp only [EnR] at he; subst he
      exact SA.2 ⟨none, rfl, rfl⟩
    · simp at h
  · split at h
    · simp only [Option.some.injEq] at h; subst h
      simp only [EnR] at he; subst he
      exact nN.2 ⟨none, 0, rfl, Nat.zero_le _, .inl rfl⟩
    · simp at h
  · split at h
    · split at h
      · rename_i hk; subst hk
        simp only [Option.some.injEq] at h; subst h; exact he.2
      · simp at h
    · simp at h
  · split at h
    · split at h
      · rename_i hk; subst hk
        simp only [Option.some.injEq] at h; subst h
        obtain ⟨b, c, ty, n, rfl, hn, hb, hs, h1, hr⟩ := he
        refine nN.2 ⟨_, n, rfl, Nat.le_of_eq hn.symm, .inr ⟨b, 0, c.toList, rfl, ?_, by simpa using hr⟩⟩
        unfold Gh.pre; rw [hb]
      · simp at h
    · simp at h
  · split at h
    · split at h
      · rename_i hk; subst hk
        simp only [Option.some.injEq] at h; subst h
        obtain ⟨A, rfl, hx⟩ := he
        exact hx
      · simp at h
    · simp at h
  · split at h
    · split at h
      · rename_i hk; subst hk
        simp only [Option.some.injEq] at h; subst h
        obtain ⟨b, hb, rfl⟩ := he
        exact SA.2 ⟨_, rfl, b, rfl, hb⟩
      · simp at h
    · simp at h
  · simp at h

def XA (want : En) (e : En) : Option En :=
  match want with
  | .kv k _ => (match yl k e with
    | some x => some (.kv k x)
    | none => none)
  | _ => some e

theorem OG {G : Gh} {want e e' : En} {v : Value} (h : XA want e = some e') (he : EnR G e v) : EnR G e' v := by
  unfold XA at h
  split at h
  · split at h
    · rename_i x hx
      simp only [Option.some.injEq] at h; subst h
      exact jJ hx he
    · simp at h
  · simp only [Option.some.injEq] at h; subst h; exact he

def P6 (G : Gh) (R : En) (T' : Tabs) (L : List LS) : Ending → World → Prop
  | .returned v, w' => ∃ G', G.le G' ∧ EnR G' R v ∧ Holds w' G' T' L
  | .outgrown, _ => False
  | .panicked _, _ => False

structure Spec (P : Program) (f : Nat) (As : List En) (T : Tabs) (R : En) (T' : Tabs) : Prop where
  ok : callable P f = true
  run : ∀ (args : List Value) (w : World) (G : Gh) (L : List LS), cO (EnR G) As args → Holds w G T L → aN L → Calls P f args.toArray w (P6 G R T' L)

section
variable {P : Program} {w : World} {G : Gh} {T T' : Tabs} {Ls : List LS} {a : Act} {N : Nat} {E : Env} {ops : Array Oper} {Q : Exit → Act → World → Prop}

theorem rH {f : Nat} (h : callable P f = true) (args : Array Value) : (callFunc f args).run P w = .ok (.enter f args) w := by
  unfold callable at h
  cases hf : P.funcs[f]? with
  | none => rw [hf] at h; simp at h
  | some fn =>
    rw [hf] at h
    simp only [Bool.and_eq_true, Bool.not_eq_true', beq_eq_false_iff_ne] at h
    have h2 : fn.body ≠ none := by
      intro hb; rw [hb] at h; simp at h
    simp [callFunc, hf, h.1, h2]

def JC (look : Nat → Option En) : List En → List Operand → Option (List En)
  | [], [] => some []
  | want :: ws, x :: r => (match gz look [] x with
    | some e => (match XA want e with
      | some e' => (match JC look ws r with
        | some l => some (e' :: l)
        | none => none)
      | none => none)
    | none => none)
  | _, _ => none

theorem JD {L : Nat → Option En} (hL : vg G a L) : ∀ {ws : List En} {xs : List Operand} {es : List En}, JC L ws xs = some es → cO (EnR G) es (xs.map a.eval)
  | [], [], es, h => by simp [JC] at h; subst h; trivial
  | want :: ws, x :: xs, es, h => by
    unfold JC at h
    split at h
    · rename_i e he
      split at h
      · rename_i e' he'
        split at h
        · rename_i l hl
          simp only [Option.some.injEq] at h; subst h
          exact ⟨OG he' (dG hL (by simp) he), JD hL hl⟩
        · simp at h
      · simp at h
    · simp at h
  | [], _ :: _, es, h => by simp [JC] at h
  | _ :: _, [], es, h => by simp [JC] at h

def goes (ops : Array Oper) (L : Nat → Option En) (o : Oper) : Bool :=
  match o.guard with
  | none => true
  | some (j, want) => (match (ops[j]?).bind (·.dst) with
    | some sj => (match L sj with
      | some (.kv .bool b) => (match b, want with
        | true, true => true
        | false, false => true
        | _, _ => false)
      | _ => false)
    | none => false)

theorem sH {L : Nat → Option En} (hL : vg G a L) {o : Oper} (h : goes ops L o = true) : Region.wanted o (yielded ops a.tmps) = true := by
  unfold goes at h
  unfold Region.wanted
  split at h
  · rename_i hg; rw [hg]
  · rename_i j want hg
    rw [hg]
    split at h
    · rename_i sj hj
      split at h
      · rename_i b hb
        have hsb := unB (iw rfl (hL _ _ hb))
        refine (iG hj want).2 ?_
        rw [hsb]
        split at h
        · rfl
        · rfl
        · simp at h
      · simp at h
    · simp at h

def Uu (ops : Array Oper) (E : Env) (i : Nat) (ws : List En) : Option (Nat × List En × Option Nat) :=
  match ops[i]? with
  | some o => (match goes ops (look E []) o with
    | true => (match o.op with
      | .call c => (match c.callee with
        | .value (.func f) => (match JC (look E []) ws c.args.toList with
          | some es => some (f, es, o.dst)
          | none => none)
        | _ => none)
      | _ => none)
    | false => none)
  | none => none

def L6 (d : Option Nat) (R : En) (E : Env) : Env :=
  match d with
  | some d => (d, R) :: E
  | none => E

def EP (d : Option Nat) (N : Nat) : Bool :=
  match d with
  | some d => Nat.blt d N
  | none => true

theorem dD.L8 (hE : dD G N a E) {d : Option Nat} (hd : EP d N = true) {v : Value} {e : En} (hv : EnR G e v) : dD G N (a.put d v) (L6 d e E) := by
  cases d with
  | none => exact hE
  | some d => exact hE.put (Nat.le_of_ble_eq_true hd) hv

theorem RH {i f : Nat} {As : List En} {R : En} {d : Option Nat} (hS : Spec P f As T R T') (hE : dD G N a E) (hH : Holds w G T Ls) (hN : aN Ls)
    (hc : Uu ops E i As = some (f, As, d)) (hd : EP d N = true) (hout : True)
    (k : ∀ a' w' G', G.le G' → dD G' N a' (L6 d R E) → Holds w' G' T' Ls → ed P ops Q (i + 1) a' w') : ed P ops Q i a w := by
  unfold Uu at hc
  split at hc
  · rename_i o ho
    split at hc
    · rename_i hgo
      have hw := sH (aI hE) hgo
      split at hc
      · rename_i c hop
        split at hc
        · rename_i f' hcal
          split at hc
          · rename_i es hes
            simp only [Option.some.injEq, Prod.mk.injEq] at hc
            obtain ⟨rfl, rfl, rfl⟩ := hc
            rw [oP ho, if_pos hw]
            refine .inl ?_
            unfold Oper.wp
            have hr : (execOp a.eval o).run P w = .ok (.enter f' (c.args.toList.map a.eval).toArray) w := by
              have hargs : (c.args.map a.eval) = (c.args.toList.map a.eval).toArray := by
                apply Array.ext'; simp
              simp [execOp, hop, resolve, hcal, Act.eval, Deferred.ofValue, invoke, rH hS.ok]
              exact hargs
            rw [hr]
            refine (hS.run _ w G Ls (JD (aI hE) hes) hH hN).mono ?_
            intro e w' hp
            cases e with
            | returned v =>
              obtain ⟨G', hle, hv, hH'⟩ := hp
              exact k _ _ G' hle ((hE.mono hle).L8 hd hv) hH'
            | panicked c => exact hp.elim
            | outgrown => exact False.elim hp
          · simp at hc
        · simp at hc
      · simp at hc
    · simp at hc
  · simp at hc

def Qu : Nat → List En → Env
  | _, [] => []
  | i, e :: r => (i, e) :: Qu (i + 1) r

theorem Qv : ∀ {As : List En} {vs : List Value} {i : Nat} {t : Array Value}, cO (EnR G) As vs → (∀ j, j < vs.length → t[i + j]? = vs[j]?) →
    ∀ s e, lk (Qu i As) s = some e → EnR G e (t.getD s Go.undef)
  | [], _, _, _, _, _, s, e, h => by simp [Qu, lk] at h
  | x :: As, v :: vs, i, t, ⟨h1, h2⟩, ht, s, e, h => by
    unfold Qu at h
    rw [dP] at h
    by_cases hs : i = s
    · subst hs
      simp at h; subst h
      have := ht 0 (by simp)
      simp only [Nat.add_zero, List.getElem?_cons_zero] at this
      rw [Array.getD_eq_getD_getElem?, this]; exact h1
    · rw [if_neg hs] at h
      refine Qv h2 (fun j hj => ?_) s e h
      have := ht (j + 1) (by simp; omega)
      simpa [Nat.add_comm 1 j, Nat.add_assoc] using this
  | _ :: _, [], _, _, h, _, _, _, _ => h.elim

abbrev PostB (P : Program) (fn : Func) (G : Gh) (R : En) (T' : Tabs) (L : List LS) : Exit → Act → World → Prop := bodyPost P fn (P6 G R T' L)

theorem Spec.intro {f : Nat} {fn : Func} {c : Code} {As : List En} {R : En} (hf : P.funcs[f]? = some fn) (hok : callable P f = true) (hb : fn.body = some c) (hn : Nat.ble As.length fn.ntmps = true)
    (h : ∀ (a : Act) (w : World) (G : Gh) (L : List LS), dD G fn.ntmps a (Qu 0 As) → Holds w G T L → aN L → c.wp P (PostB P fn G R T' L) a w) : Spec P f As T R T' := by
  refine ⟨hok, fun args w G L hA hH hN => ?_⟩
  have hlen : As.length = args.length := hA.length
  have hle : args.length ≤ fn.ntmps := by rw [← hlen]; exact Nat.le_of_ble_eq_true hn
  refine calls_of_wp hf hb (h _ w G L ⟨?_, rfl, ?_⟩ hH hN)
  · simp; omega
  · refine Qv hA (fun j hj => ?_)
    rw [Nat.zero_add, Array.getElem?_append_left (by simpa using hj)]
    simp

def acD (E : Env) (t : Nat) (R : En) : Option En :=
  match lk E t with
  | some e => XA R e
  | none => none

theorem Y9 {fn : Func} {t : Nat} {G0 : Gh} {R : En} {L : List LS} (hr : fn.results = #[.tmp t]) (hE : dD G N a E) (hle : G0.le G) (hH : Holds w G T L) (he : acD E t R = some R) : PostB P fn G0 R T L .ret a w := by
  refine ⟨hE.2.1, a.tmps.getD t Go.undef, results_tmp hr _ _ _, G, hle, ?_, hH⟩
  unfold acD at he
  split at he
  · rename_i e h1; exact OG he (hE.2.2 t e h1)
  · simp at he

theorem EL {c : Operand} {x y : Code} {b : Bool} (hE : dD G N a E) (hc : gz (look E []) [] c = some (.kv .bool b)) (ht : b = true → x.wp P Q a w) (hf : b = false → y.wp P Q a w) : (Code.cond c x y).wp P Q a w :=
  wp_cond_split (unB (dG (aI hE) (by simp) hc)) ht hf

theorem aaS {c : Operand} {x y : Code} {b : Bool} (hE : dD G N a E) (hc : gz (look E []) [] c = some (.kv .bool b)) (hb : b = true) (ht : x.wp P Q a w) : (Code.cond c x y).wp P Q a w :=
  EL hE hc (fun _ => ht) (fun h => by rw [hb] at h; simp at h)

theorem XB {c : Operand} {x y : Code} {b : Bool} (hE : dD G N a E) (hc : gz (look E []) [] c = some (.kv .bool b)) (hb : b = false) (hf : y.wp P Q a w) : (Code.cond c x y).wp P Q a w :=
  EL hE hc (fun h => by rw [hb] at h; simp at h) (fun _ => hf)

def Rnd (P : Program) (c : Code) (Q : Exit → Act → World → Prop) (a : Act) (w : World) : Prop :=
  ∀ (b : Frame) (k : List Item) (cs : List Frame), ∃ e a' w', Q e a' w' ∧ Arrives P (lone (b.at a (.code c :: .inLoop c :: k)) cs w) b k cs e a' w'

theorem RV {c : Code} (h : Rnd P c Q a w) : (Code.loop c).wp P Q a w := fun b k cs =>
  let ⟨e, a', w', q, r⟩ := h b k cs
  ⟨e, a', w', q, .of_steps (.one step_loop) r⟩

theorem Zb {c : Code} (h : c.wp P (Exit.then (Rnd P c Q) Q) a w) : Rnd P c Q a w := by
  intro b k cs
  obtain ⟨e, a₁, w₁, hq, harr⟩ := h b (.inLoop c :: k) cs
  cases e with
  | normal =>
    obtain ⟨e₂, a₂, w₂, hq₂, harr₂⟩ := hq b k cs
    exact ⟨e₂, a₂, w₂, hq₂, .of_steps (Steps.trans harr (.one step_inLoop)) harr₂⟩
  | exit id => exact ⟨_, a₁, w₁, hq, .pass (x := .inLoop c) rfl (fun _ _ => .inl (by simp)) harr⟩
  | goto l => exact ⟨_, a₁, w₁, hq, .pass (x := .inLoop c) rfl (fun _ _ => .inl (by simp)) harr⟩
  | ret => exact ⟨_, a₁, w₁, hq, .pass (x := .inLoop c) rfl (fun _ _ => .inl (by simp)) harr⟩
  | panic ch => exact ⟨_, a₁, w₁, hq, .pass (x := .inLoop c) rfl (fun _ _ => .inl (by simp)) harr⟩
  | outgrown => exact ⟨_, a₁, w₁, hq, .pass (x := .inLoop c) rfl (fun _ _ => .inl (by simp)) harr⟩

end
end Go.Proofs.YtbnmhjobnepajaaGreat.M


namespace Go.Proofs.YtbnmhjobnepajaaGreat.M

def IM : (k : Kd) → k.den → Nat → (k' : Kd) → k'.den → Option k.den
  | .pair a b, x, o, k', z => if h : k' = .pair a b ∧ o = 0 then some (h.1 ▸ z) else
      (match Nat.blt o a.w with
      | true => (match IM a x.1 o k' z with
        | some y => some (y, x.2)
        | none => none)
      | false => (match IM b x.2 (o - a.w) k' z with
        | some y => some (x.1, y)
        | none => none))
  | .unit, _, _, _, _ => none
  | .int k, _, o, k', z => if h : k' = .int k ∧ o = 0 then some (h.1 ▸ z) else none
  | .bool, _, o, k', z => if h : k' = .bool ∧ o = 0 then some (h.1 ▸ z) else none
  | .str, _, o, k', z => if h : k' = .str ∧ o = 0 then some (h.1 ▸ z) else none
  | .ptr t, _, o, k', z => if h : k' = .ptr t ∧ o = 0 then some (h.1 ▸ z) else none
  | .list k, _, o, k', z => if h : k' = .list k ∧ o = 0 then some (h.1 ▸ z) else none

def L9 : (fs : List Fk) → az fs → Nat → (k' : Kd) → k'.den → Option (az fs)
  | [], _, _, _, _ => none
  | .p k :: r, x, o, k', z => (match Nat.blt o k.w with
    | true => (match IM k x.1 o k' z with
      | some y => some (y, x.2)
      | none => none)
    | false => (match L9 r x.2 (o - k.w) k' z with
      | some y => some (x.1, y)
      | none => none))
  | .own _ _ k :: r, x, o, k', z => (match Nat.beq o 0 with
    | true => none
    | false => (match L9 r x.2 (o - 1) k' z with
      | some y => some (x.1, y)
      | none => none))
  | .omap _ _ :: r, x, o, k', z => (match Nat.beq o 0 with
    | true => none
    | false => (match L9 r x.2 (o - 1) k' z with
      | some y => some (x.1, y)
      | none => none))

def splice (cs ds : List Value) (o : Nat) : List Value := cs.take o ++ ds ++ cs.drop (o + ds.length)

section
variable {P : Program} {w : World} {G : Gh} {T T' : Tabs} {Ls : List LS} {a : Act} {N : Nat} {E : Env} {ops : Array Oper} {Q : Exit → Act → World → Prop}

theorem Es {cs ds : List Value} {o : Nat} (h : o + ds.length ≤ cs.length) : (splice cs ds o).length = cs.length := by
  simp [splice]; omega

theorem Ik {c1 c2 ds : List Value} {o : Nat} (h : o + ds.length ≤ c1.length) : splice (c1 ++ c2) ds o = splice c1 ds o ++ c2 := by
  unfold splice
  rw [List.take_append_of_le_length (by omega), List.drop_append_of_le_length (by omega)]
  simp

theorem wE {c1 c2 ds : List Value} {o : Nat} (h : c1.length ≤ o) : splice (c1 ++ c2) ds o = c1 ++ splice c2 ds (o - c1.length) := by
  unfold splice
  rw [List.take_append, List.take_of_length_le h, List.drop_append, List.drop_of_length_le (by omega)]
  simp only [List.nil_append, List.append_assoc]
  rw [show o + ds.length - c1.length = o - c1.length + ds.length by omega]

theorem Lr {cs ds : List Value} (h : ds.length = cs.length) : splice cs ds 0 = ds := by simp [splice, h]

theorem wM {k k' : Kd} {z : k'.den} {x' : k.den} {o : Nat} {cs ds : List Value} {x : k.den} (hs : (if h : k' = k ∧ o = 0 then some (h.1 ▸ z) else none) = some x') (hk : Kr G k x cs) (hz : Kr G k' z ds) :
    o + ds.length ≤ cs.length ∧ Kr G k x' (splice cs ds o) := by
  split at hs
  · rename_i h
    obtain ⟨h1, h2⟩ := h
    subst h1; subst h2
    simp only [Option.some.injEq] at hs; subst hs
    have l1 := iM hk
    have l2 := iM hz
    exact ⟨by omega, by rw [Lr (by omega)]; exact hz⟩
  · simp at hs

theorem I9 {k' : Kd} {z : k'.den} {ds : List Value} (hz : Kr G k' z ds) : ∀ {k : Kd} {x x' : k.den} {o : Nat} {cs : List Value}, IM k x o k' z = some x' → Kr G k x cs →
    o + ds.length ≤ cs.length ∧ Kr G k x' (splice cs ds o)
  | .pair a b, x, x', o, cs, hs, hk => by
    unfold IM at hs
    by_cases h : k' = .pair a b ∧ o = 0
    · rw [dif_pos h] at hs
      exact wM (x := x) (k := .pair a b) (by rw [dif_pos h]; exact hs) hk hz
    · rw [dif_neg h] at hs
      simp only [Kr] at hk
      obtain ⟨c1, c2, rfl, h1, h2⟩ := hk
      have hl := iM h1
      split at hs
      · split at hs
        · rename_i y hy
          simp only [Option.some.injEq] at hs; subst hs
          obtain ⟨k1, k2⟩ := I9 hz hy h1
          refine ⟨by simp; omega, ?_⟩
          rw [Ik k1]
          exact ⟨_, _, rfl, k2, h2⟩
        · simp at hs
      · rename_i hlt
        have hge : a.w ≤ o := by
          rcases Nat.lt_or_ge o a.w with h' | h'
          · have : Nat.blt o a.w = true := Nat.ble_eq_true_of_le h'
            rw [hlt] at this; simp at this
          · exact h'
        split at hs
        · rename_i y hy
          simp only [Option.some.injEq] at hs; subst hs
          obtain ⟨k1, k2⟩ := I9 hz hy h2
          refine ⟨by simp; omega, ?_⟩
          rw [wE (by omega), hl]
          exact ⟨_, _, rfl, h1, k2⟩
        · simp at hs
  | .unit, x, x', o, cs, hs, hk => by simp [IM] at hs
  | .int k, x, x', o, cs, hs, hk => wM (x := x) (k := .int k) hs hk hz
  | .bool, x, x', o, cs, hs, hk => wM (x := x) (k := .bool) hs hk hz
  | .str, x, x', o, cs, hs, hk => wM (x := x) (k := .str) hs hk hz
  | .ptr t, x, x', o, cs, hs, hk => wM (x := x) (k := .ptr t) hs hk hz
  | .list k, x, x', o, cs, hs, hk => wM (x := x) (k := .list k) hs hk hz

theorem I8 {k' : Kd} {z : k'.den} {ds : List Value} (hz : Kr G k' z ds) {t i : Nat} : ∀ {fs : List Fk} {x x' : az fs} {o f : Nat} {cs : List Value}, L9 fs x o k' z = some x' → pR w G Ls t i f fs x cs →
    o + ds.length ≤ cs.length ∧ pR w G Ls t i f fs x' (splice cs ds o)
  | [], x, x', o, f, cs, hs, hk => by simp [L9] at hs
  | .p k :: fs, x, x', o, f, cs, hs, hk => by
    obtain ⟨c1, c2, rfl, h1, h2⟩ := hk
    have hl : c1.length = k.w := iM h1
    unfold L9 at hs
    split at hs
    · split at hs
      · rename_i y hy
        simp only [Option.some.injEq] at hs; subst hs
        obtain ⟨k1, k2⟩ := I9 hz hy h1
        refine ⟨by simp; omega, ?_⟩
        rw [Ik k1]
        exact ⟨_, _, rfl, k2, h2⟩
      · simp at hs
    · rename_i hlt
      have hge : k.w ≤ o := by
        rcases Nat.lt_or_ge o k.w with h' | h'
        · have : Nat.blt o k.w = true := Nat.ble_eq_true_of_le h'
          rw [hlt] at this; simp at this
        · exact h'
      split at hs
      · rename_i y hy
        simp only [Option.some.injEq] at hs; subst hs
        obtain ⟨k1, k2⟩ := I8 hz hy h2
        refine ⟨by simp; omega, ?_⟩
        rw [wE (by omega), hl]
        exact ⟨_, _, rfl, h1, k2⟩
      · simp at hs
  | .own e bt k :: fs, x, x', o, f, cs, hs, hk => by
    obtain ⟨c1, c2, rfl, h1, h2⟩ := hk
    have hl : c1.length = 1 := rE h1
    unfold L9 at hs
    split at hs
    · simp at hs
    · rename_i hb
      have ho := Nat.ne_of_beq_eq_false hb
      split at hs
      · rename_i y hy
        simp only [Option.some.injEq] at hs; subst hs
        obtain ⟨k1, k2⟩ := I8 hz hy h2
        refine ⟨by simp; omega, ?_⟩
        rw [wE (by omega), hl]
        exact ⟨_, _, rfl, h1, k2⟩
      · simp at hs
  | .omap kk kv :: fs, x, x', o, f, cs, hs, hk => by
    obtain ⟨c1, c2, rfl, h1, h2⟩ := hk
    have hl : c1.length = 1 := rE h1
    unfold L9 at hs
    split at hs
    · simp at hs
    · rename_i hb
      have ho := Nat.ne_of_beq_eq_false hb
      split at hs
      · rename_i y hy
        simp only [Option.some.injEq] at hs; subst hs
        obtain ⟨k1, k2⟩ := I8 hz hy h2
        refine ⟨by simp; omega, ?_⟩
        rw [wE (by omega), hl]
        exact ⟨_, _, rfl, h1, k2⟩
      · simp at hs

theorem yD : ∀ {k : Kd} {x : k.den} {cs : List Value}, Kr G k x cs → ∀ v ∈ cs, v.oneCell' = true
  | .unit, _, _, h => by simp only [Kr] at h; subst h; simp
  | .int _, _, _, h => by simp only [Kr] at h; subst h; simp [Value.oneCell']
  | .bool, _, _, h => by simp only [Kr] at h; subst h; simp [Value.oneCell']
  | .str, _, _, h => by simp only [Kr] at h; subst h; simp [Value.oneCell']
  | .ptr _, _, _, h => by simp only [Kr] at h; obtain ⟨_, rfl, _⟩ := h; simp [Value.oneCell']
  | .list _, _, _, h => by simp only [Kr] at h; obtain ⟨_, _, rfl, _⟩ := h; simp [Value.oneCell']
  | .pair a b, _, _, h => by
    simp only [Kr] at h; obtain ⟨_, _, rfl, h1, h2⟩ := h
    intro v hv
    rcases List.mem_append.1 hv with hv | hv
    · exact yD h1 v hv
    · exact yD h2 v hv

theorem BP {ty : TypeId} {b off : Nat} {ce : Array Value} {tb : TypeId} {v : Value} {k : Kd} {z : k.den} (h1 : fA P ty = some k.w) (hh : w.heap[b]? = some (.cells ce tb (0, 0)))
    (hz : VR G k z v) (hl : off + v.cells.toList.length ≤ ce.size) :
    (Instr.storeAt ty (.pointer (some ⟨b, off, none⟩)) v).run P w = .ok () (w.setRow b (splice ce.toList v.cells.toList off).toArray) := by
  have hk := qh hz
  have hs : v.cells.size = k.w := by have := iM hk; simpa using this
  have hst := run_storeCells_at P b off tb v.cells.toList 0 ce w hh (by simpa using hl) (yD hk)
  simp only [Nat.add_zero] at hst
  simp [Instr.storeAt, Instr.sureAddr, storeVar, run_sizeOf h1, hs, hst, splice]

theorem Holds.row (h : Holds w G T Ls) {b : Nat} {ce ce' : Array Value} {tb : TypeId} (hh : w.heap[b]? = some (.cells ce tb (0, 0))) {L' : List LS}
    (hin : bJ (w.setRow b ce') G T' L' b)
    (hr : (∃ t i, G.role b = .obj t i) ∨ G.role b = .loc)
    (hhole : ∀ t i f, aK t i f L' = aK t i f Ls)
    (hT : ∀ t i tab x, (∀ b', G.role b' = .obj t i → b' ≠ b) → T t = some tab → tab.xs[i]? = some x → ∃ xs', T' t = some ⟨tab.fs, xs'⟩ ∧ xs'[i]? = some x)
    (hloc : ∀ l ∈ L', (l ∈ Ls ∧ l.blk ≠ some b) ∨ LSR (w.setRow b ce') G l) (hnd : (L'.filterMap LS.blk).Nodup)
    (hex : ∀ t tab i, T' t = some tab → i < tab.xs.length → ∃ b, G.role b = .obj t i)
    (hT2 : ∀ t tab, T t = some tab → ∃ tab', T' t = some tab' ∧ tab'.xs.length = tab.xs.length) : Holds (w.setRow b ce') G T' L' := by
  have hsame : ∀ b', b' ≠ b → (w.setRow b ce').heap[b']? = w.heap[b']? := fun b' hb => setRow_other w b b' ce' hb
  refine h.change (fun b' => b' = b) (Gh.le_refl G) ⟨rfl, rfl, rfl⟩ ?_ (fun b' hb => ⟨hsame b' hb, rfl⟩) (fun b' hb => by subst hb; exact hin) ?_ ?_ hnd hex h.inj h.finj (fun b t i f hb => by
    obtain ⟨tab, h1, h2⟩ := h.fex b t i f hb
    obtain ⟨tab', h3, h4⟩ := hT2 t tab h1
    exact ⟨tab', h3, by omega⟩)
  · intro b' hb; simp at hb; exact h.free b' hb
  · intro b' t i hb hr' tab x cs h1 h2 h3
    obtain ⟨xs', k1, k2⟩ := hT t i tab x (fun b2 hb2 => by rw [h.inj b2 b' t i hb2 hr']; exact hb) h1 h2
    refine ⟨⟨tab.fs, xs'⟩, x, k1, k2, ?_⟩
    refine bQ (Gh.le_refl G) (fun f => hhole t i f) (fun b2 f hb2 => ⟨hsame b2 ?_, rfl⟩) h3
    intro he; subst he
    rcases hr with ⟨t', i', hr⟩ | hr <;> rcases hb2 with hb2 | ⟨p, hb2⟩ <;> rw [hr] at hb2 <;> simp at hb2
  · intro l hl
    rcases hloc l hl with ⟨h1, h2⟩ | h1
    · refine fC (Gh.le_refl G) (fun b' hb' => ⟨hsame b' (fun he => ?_), rfl⟩) (h.loc l h1)
      subst he; exact h2 hb'
    · exact h1

def Ip (T T' : Tabs) (t i : Nat) (fs : List Fk) (x' : az fs) : Prop := (∃ xs, T t = some ⟨fs, xs⟩ ∧ T' t = some ⟨fs, xs.set i x'⟩) ∧ ∀ t', t' ≠ t → T' t' = T t'

theorem WT (h : Holds w G T Ls) {ty t i off : Nat} {u v : Value} {fs : List Fk} {x x' : az fs} {k : Kd} {z : k.den} (hu : EnR G (.fldA t i off) u) (hv : EnR G (.kv k z) v)
    (hs : fA P ty = some k.w) (ho : og T t i fs x) (hset : L9 fs x off k z = some x') (hT : Ip T T' t i fs x') :
    ∃ w', (Instr.storeAt ty u v).run P w = .ok () w' ∧ Holds w' G T' Ls := by
  obtain ⟨b, hb, rfl⟩ := hu
  obtain ⟨ce, tb, hh, hob⟩ := h.at hb ho
  have hz : Kr G k z v.cells.toList := qh hv
  obtain ⟨k1, k2⟩ := I8 (w := w) (Ls := Ls) (t := t) (i := i) hz hset hob
  rw [Array.length_toList] at k1
  refine ⟨_, BP hs hh hv k1, ?_⟩
  obtain ⟨⟨xs, hT1, hT2⟩, hT3⟩ := hT
  obtain ⟨xs0, ho1, ho2⟩ := ho
  rw [hT1] at ho1
  simp only [Option.some.injEq, Tab.mk.injEq, heq_eq_eq, true_and] at ho1
  subst ho1
  have hlt := (List.getElem?_eq_some_iff.1 ho2).1
  refine h.row hh ?_ (.inl ⟨t, i, hb⟩) (fun _ _ _ => rfl) ?_ (fun l hl => .inl ⟨hl, ?_⟩) h.nd ?_ ?_
  · unfold bJ
    rw [hb]
    refine ⟨_, x', (splice ce.toList v.cells.toList off).toArray, tb, hT2, by simp [hlt], setRow_heap w b ce _ tb _ hh, ?_⟩
    refine bQ (w := w) (Gh.le_refl G) (fun _ => rfl) (fun b2 f hb2 => ⟨setRow_other w b b2 _ ?_, rfl⟩) k2
    intro he; subst he
    rcases hb2 with hb2 | ⟨p, hb2⟩ <;> rw [hb] at hb2 <;> simp at hb2
  · intro t' i' tab y hne h1 h2
    by_cases ht : t' = t
    · subst ht
      rw [hT1] at h1
      simp only [Option.some.injEq] at h1; subst h1
      refine ⟨_, hT2, ?_⟩
      have hi : i ≠ i' := fun hi => by subst hi; exact hne b hb rfl
      simp only at h2
      rw [List.getElem?_set_ne hi]; exact h2
    · exact ⟨tab.xs, by rw [hT3 t' ht]; exact h1, h2⟩
  · intro hbl
    rcases h.BJ hl hbl with h1 | ⟨p, h1⟩ <;> rw [hb] at h1 <;> simp at h1
  · intro t' tab i' h1 h2
    by_cases ht : t' = t
    · subst ht
      rw [hT2] at h1
      simp only [Option.some.injEq] at h1; subst h1
      exact h.ex _ _ i' hT1 (by simpa using h2)
    · rw [hT3 t' ht] at h1
      exact h.ex t' tab i' h1 h2
  · intro t' tab h1
    by_cases ht : t' = t
    · subst ht
      rw [hT1] at h1
      simp only [Option.some.injEq] at h1; subst h1
      exact ⟨_, hT2, by simp⟩
    · exact ⟨tab, by rw [hT3 t' ht]; exact h1, rfl⟩

theorem uq {L : List LS} {j : Nat} {l l' : LS} (hj : L[j]? = some l) (hb : l'.blk = l.blk) (h : (L.filterMap LS.blk).Nodup) : ((L.set j l').filterMap LS.blk).Nodup := by
  have : (L.set j l').filterMap LS.blk = L.filterMap LS.blk := by
    have hlt := (List.getElem?_eq_some_iff.1 hj).1
    have hl := (List.getElem?_eq_some_iff.1 hj).2
    have e1 : (L.set j l').map LS.blk = L.map LS.blk := by
      rw [List.map_set, hb]
      apply List.ext_getElem?
      intro n
      rw [List.getElem?_set]
      split
      · rename_i hn; subst hn; simp [hlt, hl]
      · rfl
    have e2 : ∀ M : List LS, M.filterMap LS.blk = (M.map LS.blk).filterMap id := by intro M; simp [List.filterMap_map]
    rw [e2, e2, e1]
  rw [this]; exact h

theorem ny {L : List LS} {j : Nat} {l l' m : LS} {b : Nat} (hj : L[j]? = some l) (hb : l.blk = some b) (h : (L.filterMap LS.blk).Nodup) (hm : m ∈ L.set j l') : m = l' ∨ (m ∈ L ∧ m.blk ≠ some b) := by
  obtain ⟨n, hn⟩ := List.mem_iff_getElem?.1 hm
  rw [List.getElem?_set] at hn
  split at hn
  · rename_i he
    split at hn
    · simp at hn; exact .inl hn.symm
    · simp at hn
  · rename_i hne
    refine .inr ⟨List.mem_of_getElem? hn, fun hmb => ?_⟩
    -- two places of one block
    have key : ∀ (M : List LS) (p q : Nat) (x y : LS), p < q → M[p]? = some x → M[q]? = some y → x.blk = some b → y.blk = some b → ¬ (M.filterMap LS.blk).Nodup := by
      intro M
      induction M with
      | nil => intro p q x y _ hp; simp at hp
      | cons z M ih =>
        intro p q x y hpq hp hq hx hy hnd
        obtain ⟨q', rfl⟩ : ∃ q', q = q' + 1 := ⟨q - 1, by omega⟩
        simp at hq
        cases p with
        | zero =>
          simp at hp; subst hp
          rw [List.filterMap_cons_some hx] at hnd
          have := (List.nodup_cons.1 hnd).1
          exact this (List.mem_filterMap.2 ⟨y, List.mem_of_getElem? hq, hy⟩)
        | succ p =>
          simp at hp
          refine ih p q' x y (by omega) hp hq hx hy ?_
          cases hz : z.blk with
          | none => rwa [List.filterMap_cons_none hz] at hnd
          | some c => rw [List.filterMap_cons_some hz] at hnd; exact (List.nodup_cons.1 hnd).2
    rcases Nat.lt_or_gt_of_ne hne with h1 | h1
    · exact key L j n l m h1 hj hn hb hmb h
    · exact key L n j m l h1 hn hj hmb hb h

theorem lh {L : List LS} {j : Nat} {l l' : LS} (hj : L[j]? = some l) (h1 : ∀ t i f, aK t i f [l] = none) (h2 : ∀ t i f, aK t i f [l'] = none) : ∀ t i f, aK t i f (L.set j l') = aK t i f L := by
  intro t i f
  induction L generalizing j with
  | nil => simp at hj
  | cons z L ih =>
    cases j with
    | zero =>
      simp at hj; subst hj
      simp only [List.set_cons_zero]
      have e : ∀ (q : LS), aK t i f [q] = none → aK t i f (q :: L) = aK t i f L := by
        intro q hq
        cases q with
        | hole t' i' f' v =>
          simp only [aK] at hq ⊢
          split at hq
          · simp at hq
          · rename_i hc; rw [if_neg hc]
        | _ => rfl
      rw [e _ (h1 t i f), e _ (h2 t i f)]
    | succ j =>
      simp only [List.set_cons_succ]
      cases z <;> simp only [aK]
      all_goals first
        | exact ih (by simpa using hj)
        | (split
           · rfl
           · exact ih (by simpa using hj))

theorem WQ (h : Holds w G T Ls) {ty b off j : Nat} {v : Value} {k : Kd} {x x' : k.den} {k' : Kd} {z : k'.den} (hv : EnR G (.kv k' z) v) (hs : fA P ty = some k'.w)
    (hj : Ls[j]? = some (.box b k x)) (hset : IM k x off k' z = some x') :
    ∃ w', (Instr.storeAt ty (.pointer (some ⟨b, off, none⟩)) v).run P w = .ok () w' ∧ Holds w' G T (Ls.set j (.box b k x')) := by
  obtain ⟨hr, ce, tb, hh, hk⟩ := h.loc _ (List.mem_of_getElem? hj)
  have hz : Kr G k' z v.cells.toList := qh hv
  obtain ⟨k1, k2⟩ := I9 hz hset hk
  rw [Array.length_toList] at k1
  refine ⟨_, BP hs hh hv k1, ?_⟩
  refine h.row hh ?_ (.inr hr) (lh hj (fun _ _ _ => rfl) (fun _ _ _ => rfl)) (fun t i tab x0 _ h1 h2 => ⟨tab.xs, h1, h2⟩) ?_ (uq hj rfl h.nd) h.ex (fun t tab h1 => ⟨tab, h1, rfl⟩)
  · unfold bJ; rw [hr]; trivial
  · intro l hl
    rcases ny hj rfl h.nd hl with rfl | ⟨h1, h2⟩
    · exact .inr ⟨hr, _, tb, setRow_heap w b ce _ tb _ hh, by simpa using k2⟩
    · exact .inl ⟨h1, h2⟩

end
end Go.Proofs.YtbnmhjobnepajaaGreat.M


namespace Go.Proofs.YtbnmhjobnepajaaGreat.M

def yh (P : Program) (fields : Array Field) (zc : List Value) : (K : Kd) → Nat → Nat → List (Nat × En) → Option K.den
  | .unit, f, off, parts => (match parts with
    | [] => if off = zc.length then some () else none
    | _ => none)
  | .pair a b, f, off, parts => (match fields[f]? with
    | some fd => if fd.offset = off ∧ fA P fd.type = some a.w then
        (match parts with
        | (j, e) :: r => (match Nat.beq j f with
          | true => (match yl a e, yh P fields zc b (f + 1) (off + a.w) r with
            | some x, some y => some (x, y)
            | _, _ => none)
          | false => (match lG a ((zc.drop off).take a.w), yh P fields zc b (f + 1) (off + a.w) parts with
            | some [], some y => some (fB a, y)
            | _, _ => none))
        | [] => (match lG a ((zc.drop off).take a.w), yh P fields zc b (f + 1) (off + a.w) [] with
          | some [], some y => some (fB a, y)
          | _, _ => none)) else none
    | none => none)
  | _, _, _, _ => none

def KR (look : Nat → Option En) : List (Nat × Operand) → Option (List (Nat × En))
  | [] => some []
  | (j, x) :: r => (match gz look [] x, KR look r with
    | some e, some l => some ((j, e) :: l)
    | _, _ => none)

def zN (P : Program) (fs : List Field) : Option (List (Nat × Nat)) := fs.mapM (fun f => (P.info? f.type).map fun i => (f.offset, i.size))

def SC (P : Program) (ops : Array Oper) (E : Env) (i : Nat) (K : Kd) : Option (K.den × Option Nat) :=
  match ops[i]? with
  | some o => (match goes ops (look E []) o, o.op with
    | true, .build t parts => (match P.underlying t, zeroOf P t, KR (look E []) parts.toList with
      | some (.struct fields), some (.agg zc), some ps => (match zN P fields.toList, yh P fields zc.toList K 0 0 ps with
        | some _, some x => some (x, o.dst)
        | _, _ => none)
      | _, _, _ => none)
    | _, _ => none)
  | none => none

section
variable {P : Program} {w : World} {G : Gh} {T T' : Tabs} {Ls Ls' : List LS} {a : Act} {N : Nat} {E : Env} {ops : Array Oper} {Q : Exit → Act → World → Prop}

theorem foldl_set (vs : Array Value) (off : Nat) : ∀ (cs : Array Value), off + vs.size ≤ cs.size →
    (vs.zipIdx.foldl (fun cs (c, j) => cs.setIfInBounds (off + j) c) cs).toList = splice cs.toList vs.toList off := by
  intro cs hl
  have key : ∀ (l : List Value) (k : Nat) (cs : Array Value), off + k + l.length ≤ cs.size →
      ((l.zipIdx k).foldl (fun (cs : Array Value) (p : Value × Nat) => cs.setIfInBounds (off + p.2) p.1) cs).toList = splice cs.toList l (off + k) := by
    intro l
    induction l with
    | nil => intro k cs _; simp [splice]
    | cons x l ih =>
      intro k cs hk
      simp only [List.zipIdx_cons, List.foldl_cons]
      simp at hk
      rw [ih (k + 1) _ (by simp; omega)]
      have := list_seg_step cs.toList (off + k) x l (by simp; omega)
      simp only [splice, List.length_cons]
      rw [show off + (k + 1) = off + k + 1 by omega]
      rw [Array.toList_setIfInBounds]
      rw [this]
  have := key vs.toList 0 cs (by simpa using hl)
  simp only [Nat.add_zero] at this
  rw [← this]
  congr 1
  rw [← Array.foldl_toList]
  simp

theorem GG {place : Nat → Option (Nat × Nat)} {cells : Array Value} {i off size : Nat} {v : Value} {rest : List (Nat × Value)} (hp : place i = some (off, size)) (hs : v.cells.size = size) (hl : off + size ≤ cells.size) :
    Instr.fill place cells ((i, v) :: rest) = Instr.fill place (splice cells.toList v.cells.toList off).toArray rest := by
  have e : (splice cells.toList v.cells.toList off).toArray = v.cells.zipIdx.foldl (fun cs (c, j) => cs.setIfInBounds (off + j) c) cells := by
    apply Array.ext'
    rw [foldl_set _ _ _ (by omega)]
  rw [e]
  conv => lhs; unfold Instr.fill
  rw [hp]
  simp only [hs, ne_eq, not_true_eq_false, decide_false, Bool.false_or, decide_eq_true_eq]
  rw [if_neg (by omega)]

theorem OE {fields : Array Field} {zc : List Value} {pl : Nat → Option (Nat × Nat)} (hpl : ∀ (f : Nat) (fd : Field) (sz : Nat), fields[f]? = some fd → fA P fd.type = some sz → pl f = some (fd.offset, sz)) :
    ∀ {K : Kd} {x : K.den} {f off : Nat} {parts : List (Nat × En)} {vs : List (Nat × Value)} {cells : Array Value},
      yh P fields zc K f off parts = some x → cO (fun (p : Nat × En) (q : Nat × Value) => q.1 = p.1 ∧ EnR G p.2 q.2) parts vs →
      off ≤ zc.length → cells.toList.length = zc.length → cells.toList.drop off = zc.drop off →
      ∃ new, Instr.fill pl cells vs = some (cells.toList.take off ++ new).toArray ∧ Kr G K x new ∧ off + new.length = zc.length
  | .unit, x, f, off, parts, vs, cells, h, hv, h0, h1, h2 => by
    unfold yh at h
    split at h
    · split at h
      · rename_i he
        cases vs with
        | nil =>
          refine ⟨[], ?_, rfl, by simpa using he⟩
          simp only [Instr.fill, List.append_nil]
          congr 1
          apply Array.ext'
          simp only
          rw [List.take_of_length_le (by omega)]
        | cons => exact hv.elim
      · simp at h
    · simp at h
  | .pair a b, x, f, off, parts, vs, cells, h, hv, h0, h1, h2 => by
    unfold yh at h
    split at h
    · rename_i fd hfd
      split at h
      · rename_i hc
        obtain ⟨hoff, hsz⟩ := hc
        have hp := hpl f fd _ hfd hsz
        rw [hoff] at hp
        -- a zero part
        have zero : ∀ {ps : List (Nat × En)} {y : b.den}, lG a ((zc.drop off).take a.w) = some [] → yh P fields zc b (f + 1) (off + a.w) ps = some y → cO (fun (p : Nat × En) (q : Nat × Value) => q.1 = p.1 ∧ EnR G p.2 q.2) ps vs →
            ∃ new, Instr.fill pl cells vs = some (cells.toList.take off ++ new).toArray ∧ Kr G (.pair a b) (fB a, y) new ∧ off + new.length = zc.length := by
          intro ps y hz hy hvs
          obtain ⟨c1, hc1, hk1⟩ := um (G := G) hz
          simp only [List.append_nil] at hc1
          have hl1 := iM hk1
          have hlen : off + a.w ≤ zc.length := by
            have : ((zc.drop off).take a.w).length = a.w := by rw [hc1]; exact hl1
            rw [List.length_take, List.length_drop] at this; omega
          obtain ⟨new, hn1, hn2, hn3⟩ := OE hpl hy hvs hlen h1 (by rw [← List.drop_drop, h2, List.drop_drop])
          refine ⟨c1 ++ new, ?_, ⟨c1, new, rfl, hk1, hn2⟩, by rw [List.length_append, hl1]; omega⟩
          rw [hn1]
          congr 2
          rw [← List.append_assoc]
          congr 1
          rw [← hc1, ← h2, List.take_add]
        split at h
        · rename_i j e r
          split at h
          · rename_i hj
            have hj' := Nat.eq_of_beq_eq_true hj
            subst hj'
            split at h
            · rename_i y z hy hz
              simp only [Option.some.injEq] at h; subst h
              cases vs with
              | nil => exact hv.elim
              | cons q vs =>
                obtain ⟨⟨hq1, hq2⟩, hvs⟩ := hv
                obtain ⟨j', v⟩ := q
                simp only at hq1; subst hq1
                have hva := qh (jJ hy hq2)
                have hla := iM hva
                have hsv : v.cells.size = a.w := by simpa using hla
                have hlen : off + a.w ≤ zc.length := by
                  -- the rest is built behind it
                  have := bldK_off hz
                  omega
                have hcs : cells.size = zc.length := by simpa using h1
                rw [GG hp hsv (by omega)]
                obtain ⟨new, hn1, hn2, hn3⟩ := OE (cells := (splice cells.toList v.cells.toList off).toArray) hpl hz hvs hlen (by simp only; rw [Es (by rw [hla]; omega)]; exact h1) (by
                  simp only [splice]
                  rw [List.append_assoc, List.drop_append, List.length_take, h1, Nat.min_eq_left (by omega)]
                  rw [List.drop_of_length_le (by rw [List.length_take]; omega), List.nil_append]
                  rw [show off + a.w - off = a.w by omega, List.drop_append, List.drop_of_length_le (by rw [hla]; omega), List.nil_append, hla, Nat.sub_self, List.drop_zero]
                  rw [← List.drop_drop, h2, List.drop_drop])
                refine ⟨v.cells.toList ++ new, ?_, ⟨_, new, rfl, hva, hn2⟩, by rw [List.length_append, hla]; omega⟩
                rw [hn1]
                congr 2
                simp only [splice]
                rw [← List.append_assoc]
                congr 1
                rw [List.take_append_of_le_length (by simp; omega), List.take_of_length_le (by simp; omega)]
            · simp at h
          · split at h
            · rename_i hz' y hz hy
              simp only [Option.some.injEq] at h; subst h
              exact zero (by assumption) hy hv
            · simp at h
        · split at h
          · rename_i hz' y hz hy
            simp only [Option.some.injEq] at h; subst h
            exact zero (by assumption) hy hv
          · simp at h
      · simp at h
    · simp at h
  | .int _, _, _, _, _, _, _, h, _, _, _, _ => by simp [yh] at h
  | .bool, _, _, _, _, _, _, h, _, _, _, _ => by simp [yh] at h
  | .str, _, _, _, _, _, _, h, _, _, _, _ => by simp [yh] at h
  | .ptr _, _, _, _, _, _, _, h, _, _, _, _ => by simp [yh] at h
  | .list _, _, _, _, _, _, _, h, _, _, _, _ => by simp [yh] at h
  where
  bldK_off {fields : Array Field} {zc : List Value} : ∀ {K : Kd} {x : K.den} {f off : Nat} {parts : List (Nat × En)}, yh P fields zc K f off parts = some x → off ≤ zc.length
    | .unit, x, f, off, parts, h => by
      unfold yh at h
      split at h
      · split at h
        · omega
        · simp at h
      · simp at h
    | .pair a b, x, f, off, parts, h => by
      unfold yh at h
      split at h
      · split at h
        · split at h
          · split at h
            · split at h
              · rename_i hz; have := bldK_off hz; omega
              · simp at h
            · split at h
              · rename_i hz; have := bldK_off hz; omega
              · simp at h
          · split at h
            · rename_i hz; have := bldK_off hz; omega
            · simp at h
        · simp at h
      · simp at h
    | .int _, _, _, _, _, h => by simp [yh] at h
    | .bool, _, _, _, _, h => by simp [yh] at h
    | .str, _, _, _, _, h => by simp [yh] at h
    | .ptr _, _, _, _, _, h => by simp [yh] at h
    | .list _, _, _, _, _, h => by simp [yh] at h

theorem BL : ∀ {fs : List Field} {r : List (Nat × Nat)}, zN P fs = some r → ∀ (i : Nat) (fd : Field) (sz : Nat), fs[i]? = some fd → fA P fd.type = some sz → r[i]? = some (fd.offset, sz)
  | [], r, h, i, fd, sz, hi, hs => by simp at hi
  | f :: fs, r, h, i, fd, sz, hi, hs => by
    unfold zN at h
    simp only [List.mapM_cons, Option.bind_eq_bind, Option.pure_def] at h
    cases hq : P.info? f.type with
    | none => simp [hq] at h
    | some q =>
      cases hr : fs.mapM (fun f => (P.info? f.type).map fun i => (f.offset, i.size)) with
      | none => simp [hq, hr] at h
      | some rest =>
        simp [hq, hr] at h
        subst h
        cases i with
        | zero =>
          simp at hi; subst hi
          simp [fA, hq] at hs
          simp [hs]
        | succ i => exact BL (fs := fs) (r := rest) hr i fd sz (by simpa using hi) hs

theorem NM {L : Nat → Option En} (hL : vg G a L) : ∀ {xs : List (Nat × Operand)} {ps : List (Nat × En)}, KR L xs = some ps →
    cO (fun (p : Nat × En) (q : Nat × Value) => q.1 = p.1 ∧ EnR G p.2 q.2) ps (xs.map fun p => (p.1, a.eval p.2))
  | [], ps, h => by simp [KR] at h; subst h; trivial
  | (j, x) :: r, ps, h => by
    unfold KR at h
    split at h
    · rename_i e l he hl
      simp only [Option.some.injEq] at h; subst h
      exact ⟨⟨rfl, dG hL (by simp) he⟩, NM hL hl⟩
    · simp at h

theorem SE (K : Kd) (x : K.den) {d : Option Nat} {i : Nat} (hK : K.agg = true) (hE : dD G N a E) (hb : SC P ops E i K = some (x, d)) :
    ∃ o v, ops[i]? = some o ∧ goes ops (look E []) o = true ∧ o.dst = d ∧ (execOp a.eval o).run P w = .ok (.value v) w ∧ EnR G (.kv K x) v := by
  unfold SC at hb
  split at hb
  · rename_i o ho
    split at hb
    · rename_i t parts hg hop
      split at hb
      · rename_i fields zc ps hu hz hps
        split at hb
        · rename_i r x' hr hx
          simp only [Option.some.injEq, Prod.mk.injEq] at hb
          obtain ⟨rfl, rfl⟩ := hb
          have hpa := NM (aI hE) hps
          obtain ⟨new, h1, h2, h3⟩ := OE (P := P) (pl := (r.toArray[·]?)) (fun f fd sz hf hs => by
            have := BL hr f fd sz (by simpa using hf) hs
            simpa using this) hx hpa (Nat.zero_le _) rfl rfl
          simp only [List.take_zero, List.nil_append] at h1
          have hrun : (Instr.build t (parts.map fun p => (p.1, a.eval p.2))).run P w = .ok (.agg new.toArray) w := by
            refine run_build w t _ _ ?_
            unfold Program.built
            unfold zeroOf at hz
            cases hit : P.info? t with
            | none => rw [hit] at hz; simp at hz
            | some it =>
              rw [hit] at hz
              simp only at hz
              simp only [hu, hz]
              unfold zN at hr
              rw [hr]
              simp only [Value.cells, Array.toList_map]
              exact h1
          refine ⟨o, .agg new.toArray, ho, hg, rfl, ?_, ?_⟩
          · simp only [execOp, hop]
            exact dA hrun
          · show VR G K x' _
            unfold VR
            rw [hK]
            exact ⟨_, rfl, by simpa using h2⟩
        · simp at hb
      · simp at hb
    · simp at hb
  · simp at hb

def Gw (a : Kd) (look : Nat → Option En) : List (Nat × Operand) → Nat → Option (List a.den)
  | [], _ => some []
  | (j, x) :: r, n => (match Nat.beq j n, gz look [] x with
    | true, some e => (match yl a e, Gw a look r (n + 1) with
      | some y, some l => some (y :: l)
      | _, _ => none)
    | _, _ => none)

def EI (P : Program) (ops : Array Oper) (E : Env) (i : Nat) (K : Kd) : Option (List K.den × Option Nat) :=
  match ops[i]? with
  | some o => (match goes ops (look E []) o, o.op with
    | true, .buildSlice t len parts => (match P.underlying t with
      | some (.slice el) => (match fA P el, zeroOf P el, Gw K (look E []) parts.toList 0 with
        | some sz, some z, some xs => if sz = K.w ∧ z.cells.size = sz ∧ xs.length = len ∧ 0 < sz ∧ len * sz ≤ 16777216 then some (xs, o.dst) else none
        | _, _, _ => none)
      | _ => none)
    | _, _ => none)
  | none => none

theorem Md {cs v new : List Value} {o : Nat} (h : o + v.length + new.length ≤ cs.length) : splice (splice cs v o) new (o + v.length) = splice cs (v ++ new) o := by
  unfold splice
  have e0 : (cs.take o ++ v).length = o + v.length := by simp; omega
  rw [List.take_left' e0, ← List.drop_drop, List.drop_left' e0, List.drop_drop]
  simp [Nat.add_assoc]

theorem MV {K : Kd} {L : Nat → Option En} (hL : vg G a L) {sz : Nat} (hsz : sz = K.w) : ∀ {xs : List (Nat × Operand)} {n : Nat} {l : List K.den}, Gw K L xs n = some l →
    ∀ (cells : Array Value), (n + l.length) * sz ≤ cells.size →
    ∃ new, Instr.fill (fun i => some (i * sz, sz)) cells (xs.map fun p => (p.1, a.eval p.2)) = some (splice cells.toList new (n * sz)).toArray ∧ new.length = l.length * sz ∧ jQ (Kr G K) K.w l new ∧ ∀ u ∈ new, u.oneCell' = true
  | [], n, l, h, cells, hc => by
    simp [Gw] at h; subst h
    exact ⟨[], by simp [Instr.fill, splice], by simp, trivial, by simp⟩
  | (j, x) :: r, n, l, h, cells, hc => by
    unfold Gw at h
    split at h
    · rename_i e hj he
      have hj' := Nat.eq_of_beq_eq_true hj
      subst hj'
      split at h
      · rename_i y l' hy hl
        simp only [Option.some.injEq] at h; subst h
        have hva := qh (jJ hy (dG hL (by simp) he))
        have hla := iM hva
        simp only [List.length_cons, Nat.add_mul, Nat.succ_mul] at hc
        have hc1 : cells.toList.length = cells.size := by simp
        obtain ⟨new, h1, h2, h3, h4⟩ := MV hL hsz hl (splice cells.toList (a.eval x).cells.toList (j * sz)).toArray (by
          simp only [List.size_toArray]
          rw [Es (by rw [hla, hc1]; omega), hc1]
          simp only [Nat.add_mul, Nat.one_mul]; omega)
        refine ⟨(a.eval x).cells.toList ++ new, ?_, by rw [List.length_append, hla, h2]; simp [Nat.succ_mul]; omega, ?_, ?_⟩
        · simp only [List.map_cons]
          rw [GG (off := j * sz) (size := sz) rfl (by rw [hsz]; simpa using hla) (by omega), h1]
          congr 2
          have hsz' : (a.eval x).cells.toList.length = sz := by rw [hla, hsz]
          rw [show (j + 1) * sz = j * sz + (a.eval x).cells.toList.length by rw [hsz', Nat.succ_mul]]
          exact Md (by rw [hsz', h2, hc1]; omega)
        · refine ⟨by rw [List.length_append, hla]; omega, ?_, ?_⟩
          · rw [List.take_append_of_le_length (by omega), List.take_of_length_le (by omega)]; exact hva
          · rw [List.drop_append_of_le_length (by omega), List.drop_of_length_le (by omega)]; exact h3
        · intro u hu
          rcases List.mem_append.1 hu with hu | hu
          · exact yD hva u hu
          · exact h4 u hu
      · simp at h
    · simp at h

theorem Holds.P9 (h : Holds w G T Ls) (o : Obj) : Holds (w.alloc o) (G.set w.heap.size (.pub o)) T Ls :=
  h.alloc o _ T Ls (by unfold bJ; rw [Gh.aA]; exact heap_alloc_new' w o) (fun b t i _ tab x h1 _ => .inl h1) (fun _ _ _ => rfl) (fun l hl => .inl hl) h.nd
    (fun t tab i h1 h2 => by
      obtain ⟨b, hb⟩ := h.ex t tab i h1 h2
      exact ⟨b, by rw [Gh.aW _ _ (by have := h.lt (b := b) (by rw [hb]; simp); omega)]; exact hb⟩)
    (fun t i h1 => by simp at h1) (fun t i f h1 => by simp at h1) (fun t tab h1 => ⟨[], by simpa using h1⟩)

theorem Hy (K : Kd) (xs : List K.den) {d : Option Nat} {i : Nat} (hE : dD G N a E) (hH : Holds w G T Ls) (hb : EI P ops E i K = some (xs, d)) :
    ∃ o v w' G', ops[i]? = some o ∧ goes ops (look E []) o = true ∧ o.dst = d ∧ (execOp a.eval o).run P w = .ok (.value v) w' ∧ G.le G' ∧ EnR G' (.pl K xs) v ∧ Holds w' G' T Ls ∧ ∀ b, G.role b ≠ .free → w'.heap[b]? = w.heap[b]? ∧ G'.role b = G.role b := by
  unfold EI at hb
  split at hb
  · rename_i o ho
    split at hb
    · rename_i t len parts hg hop
      split at hb
      · rename_i el hu
        split at hb
        · rename_i sz z xs' hs hz hxs
          split at hb
          · rename_i hc
            obtain ⟨c1, c2, c3, c4, c5⟩ := hc
            simp only [Option.some.injEq, Prod.mk.injEq] at hb
            obtain ⟨rfl, rfl⟩ := hb
            obtain ⟨new, h1, h2, h3, h4⟩ := MV (aI hE) c1 hxs ((Array.range (len * sz)).map (z.cells[· % z.cells.size]!)) (by simp [c3])
            have hsp : splice ((Array.range (len * sz)).map (z.cells[· % z.cells.size]!)).toList new (0 * sz) = new := by
              rw [Nat.zero_mul]
              exact Lr (by rw [h2, c3]; simp)
            rw [hsp] at h1
            refine ⟨o, .slice (some ⟨w.heap.size, 0, none⟩) len len, w.alloc (.cells new.toArray el), G.set w.heap.size (.pub (.cells new.toArray el)), ho, hg, rfl, ?_, Gh.iH hH _, ?_, hH.P9 _, fun b hb => have hne : b ≠ w.heap.size := fun he => hb (hH.free b (by omega)); ⟨iq w _ hne, Gh.aW _ _ hne⟩⟩
            · simp only [execOp, hop]
              refine dA ?_
              unfold Instr.buildSlice
              rw [bM hu]
              have hz' : (zeroValue el).run P w = .ok z w := by
                unfold zeroOf at hz
                split at hz
                · rename_i it hit; simp [zeroValue, typeInfo, hit, hz]
                · simp at hz
              simp only [Sem.run_bind, run_sizeOf hs, Result.andThen_ok]
              rw [if_neg (by omega)]
              have h1' : Instr.fill (fun i => some (i * sz, sz)) ((Array.range (len * sz)).map fun x => z.cells[x % z.cells.size]!) (parts.map fun x => (x.1, a.eval x.2)).toList = some new.toArray := by
                rw [Array.toList_map]; exact h1
              by_cases h0 : len * sz = 0
              · have hl0 : len = 0 := by
                  rcases Nat.mul_eq_zero.1 h0 with h | h
                  · exact h
                  · omega
                have hn0 : new = [] := List.eq_nil_of_length_eq_zero (by rw [h2, c3, hl0]; simp)
                subst hn0
                have hp0 : parts.toList = [] := by
                  cases hq : parts.toList with
                  | nil => rfl
                  | cons p r =>
                    obtain ⟨j, x⟩ := p
                    rw [hq] at hxs
                    unfold Gw at hxs
                    have hx0 : xs' = [] := List.eq_nil_of_length_eq_zero (by rw [c3, hl0])
                    rw [hx0] at hxs
                    split at hxs
                    · split at hxs <;> simp at hxs
                    · simp at hxs
                have he : ∀ f : Nat → Value, (Array.range 0).map f = #[] := fun f => by apply Array.ext'; simp
                simp [h0, hp0, Instr.fill, newRow, he]
              · simp [h0, hz', h1, newRow]
            · refine ⟨w.heap.size, new.toArray, el, len, by rw [c3], by omega, Gh.aA _ _ _, by simp [h2, c1], by simpa using h4, ?_⟩
              exact iV (fun x cs hx => eP (Gh.iH hH _) hx) h3
          · simp at hb
        · simp at hb
      · simp at hb
    · simp at hb
  · simp at hb

theorem Il (K : Kd) (xs : List K.den) {d : Option Nat} {i : Nat} (hE : dD G N a E) (hH : Holds w G T Ls) (hb : EI P ops E i K = some (xs, d)) (hd : EP d N = true)
    (k : ∀ a' w' G', G.le G' → dD G' N a' (L6 d (.pl K xs) E) → Holds w' G' T Ls → (∀ b, G.role b ≠ .free → w'.heap[b]? = w.heap[b]? ∧ G'.role b = G.role b) → ed P ops Q (i + 1) a' w') : ed P ops Q i a w := by
  obtain ⟨o, v, w', G', h1, h2, h3, h4, h5, h6, h7, h8⟩ := Hy (P := P) K xs hE hH hb
  subst h3
  exact pJ h1 (sH (aI hE) h2) h4 (k _ _ G' h5 ((hE.mono h5).L8 hd h6) h7 h8)

theorem Uc (K : Kd) (xs : List K.den) {d : Option Nat} {i : Nat} (hE : dD G N a E) (hH : Holds w G T Ls) (hb : EI P ops E i K = some (xs, d)) (hd : EP d N = true)
    (k : ∀ a' w' G', G.le G' → dD G' N a' (L6 d (.pl K xs) E) → Holds w' G' T Ls → ed P ops Q (i + 1) a' w') : ed P ops Q i a w :=
  Il (P := P) K xs hE hH hb hd (fun a' w' G' h1 h2 h3 _ => k a' w' G' h1 h2 h3)

end
end Go.Proofs.YtbnmhjobnepajaaGreat.M


namespace Go.Proofs.YtbnmhjobnepajaaGreat.M

section
variable {P : Program} {w : World} {G : Gh} {T T' : Tabs} {Ls Ls' : List LS} {a : Act} {N : Nat} {E : Env} {ops : Array Oper} {Q : Exit → Act → World → Prop}

theorem fD {l : LS} (h : ∀ t i f, aK t i f [l] = none) (L : List LS) (t i f : Nat) : aK t i f (l :: L) = aK t i f L := by
  cases l with
  | hole t' i' f' v =>
    have := h t i f
    simp only [aK] at this ⊢
    split at this
    · simp at this
    · rename_i hc; rw [if_neg hc]
  | _ => rfl

theorem aN.cons {l : LS} (h : ∀ t i f, aK t i f [l] = none) {L : List LS} (hL : aN L) : aN (l :: L) := fun t i f => by rw [fD h]; exact hL t i f

theorem Holds.yj (h : Holds w G T Ls) {l : LS} (hl : l ∈ Ls) {b : Nat} (hb : l.blk = some b) : b < w.heap.size := by
  refine h.lt ?_
  rcases h.BJ hl hb with h1 | ⟨p, h1⟩ <;> rw [h1] <;> simp

theorem Holds.yF (h : Holds w G T Ls) (o : Obj) (r : nX) (l : LS) (hr : r = .loc ∨ ∃ p, r = .grow .loc p) (hok : bJ (w.alloc o) (G.set w.heap.size r) T (l :: Ls) w.heap.size)
    (hl : LSR (w.alloc o) (G.set w.heap.size r) l) (hb : l.blk = some w.heap.size) (hn : ∀ t i f, aK t i f [l] = none) : Holds (w.alloc o) (G.set w.heap.size r) T (l :: Ls) := by
  refine h.alloc o r T (l :: Ls) hok (fun b t i _ tab x h1 _ => .inl h1) (fun t i f => fD hn Ls t i f) ?_ ?_ ?_ ?_ ?_ (fun t tab h1 => ⟨[], by simpa using h1⟩)
  · intro l' hl'
    rcases List.mem_cons.1 hl' with rfl | h1
    · exact .inr hl
    · exact .inl h1
  · rw [List.filterMap_cons_some hb]
    refine List.nodup_cons.2 ⟨fun hm => ?_, h.nd⟩
    obtain ⟨l', h1, h2⟩ := List.mem_filterMap.1 hm
    exact Nat.lt_irrefl _ (h.yj h1 h2)
  · intro t tab i h1 h2
    obtain ⟨b, hb⟩ := h.ex t tab i h1 h2
    exact ⟨b, by rw [Gh.aW _ _ (by have := h.lt (b := b) (by rw [hb]; simp); omega)]; exact hb⟩
  · intro t i h1
    rcases hr with hr | ⟨p, hr⟩ <;> rw [hr] at h1 <;> simp at h1
  · intro t i f h1
    rcases hr with hr | ⟨p, hr⟩ <;> rw [hr] at h1 <;> simp at h1

theorem Holds.box (h : Holds w G T Ls) {K : Kd} {x : K.den} {v : Value} (e : TypeId) (hv : VR G K x v) :
    Holds (w.alloc (.cells v.cells e)) (G.set w.heap.size .loc) T (.box w.heap.size K x :: Ls) :=
  h.yF _ .loc _ (.inl rfl) (by unfold bJ; rw [Gh.aA]; trivial) ⟨Gh.aA _ _ _, v.cells, e, heap_alloc_new' w _, eP (Gh.iH h _) (qh hv)⟩ rfl (fun _ _ _ => rfl)

def acK (P : Program) (ops : Array Oper) (E : Env) (i : Nat) (K : Kd) : Option (TypeId × Option Nat) :=
  match ops[i]? with
  | some o => (match goes ops (look E []) o, o.op with
    | true, .alloc e => (match zeroOf P e with
      | some z => (match isZero K z with
        | true => some (e, o.dst)
        | false => none)
      | none => none)
    | _, _ => none)
  | none => none

theorem zk {m : Sem Unit} {w' : World} (h : m.run P w = .ok () w') : (do m; pure Next.skip : Sem Next).run P w = .ok .skip w' := by simp [h]

theorem Holds.Q3 (h : Holds w G T Ls) (e bt : Nat) (K : Kd) : Holds w G T (.tk (.slice none 0 0) e bt K [] :: Ls) := by
  refine h.change (fun _ => False) (Gh.le_refl G) ⟨rfl, rfl, rfl⟩ h.free (fun b _ => ⟨rfl, rfl⟩) (fun _ hb => hb.elim) ?_ ?_ h.nd h.ex h.inj h.finj h.fex
  · intro b t i _ _ tab x cs h1 h2 h3
    exact ⟨tab, x, h1, h2, bQ (w := w) (L := Ls) (Gh.le_refl G) (fun f => fD (fun _ _ _ => rfl) _ _ _ _) (fun _ _ _ => ⟨rfl, rfl⟩) h3⟩
  · intro l hl
    rcases List.mem_cons.1 hl with rfl | h1
    · exact ⟨[], World.ownsRow_nil w 0 e K.w, trivial, trivial, fun b hb => by simp [Value.ownBlock] at hb⟩
    · exact h.loc l h1

theorem Holds.drop {l : LS} (h : Holds w G T (l :: Ls)) (hn : ∀ t i f, aK t i f [l] = none) : Holds w G T Ls := by
  refine h.change (fun _ => False) (Gh.le_refl G) ⟨rfl, rfl, rfl⟩ h.free (fun b _ => ⟨rfl, rfl⟩) (fun _ hb => hb.elim) ?_ (fun l' hl => h.loc l' (List.mem_cons_of_mem _ hl)) ?_ h.ex h.inj h.finj h.fex
  · intro b t i _ _ tab x cs h1 h2 h3
    exact ⟨tab, x, h1, h2, bQ (w := w) (L := l :: Ls) (Gh.le_refl G) (fun f => (fD hn _ _ _ _).symm) (fun _ _ _ => ⟨rfl, rfl⟩) h3⟩
  · have := h.nd
    cases hb : l.blk with
    | none => rwa [List.filterMap_cons_none hb] at this
    | some b => rw [List.filterMap_cons_some hb] at this; exact (List.nodup_cons.1 this).2

def qj (inf : TypeInfo) (K : Kd) (bt : Nat) : Bool :=
  Nat.beq inf.size K.w && (Nat.beq inf.bytes bt && (Nat.blt 0 K.w && (Nat.blt 0 bt && (match inf.zero with
    | some z => Nat.beq z.cells.size K.w
    | none => false))))

theorem xx {base e size n : Nat} {v : Value} {xs : List Value} (h : w.ownsRow base e size v n xs) {g : Nat} (hg : v.ownBlock = some g) :
    ∃ cur, w.heap[g]? = some (.cells cur e (0, 0)) ∧ ∃ rest, cur.toList = xs ++ rest := by
  rcases h.2 with ⟨rfl, _⟩ | ⟨g', cap, cur, rfl, _, hh, _, _, _, ht⟩
  · simp [Value.ownBlock] at hg
  · simp [Value.ownBlock] at hg
    subst hg
    exact ⟨cur, hh, cur.toList.drop (n * size), by rw [← ht, List.take_append_drop]⟩

theorem yA {n : Nat} : ∀ (M : List LS) (j : Nat) (l l' : LS), (∀ m ∈ M, ∀ b, m.blk = some b → b < n) → l'.blk = some n → M[j]? = some l → (M.filterMap LS.blk).Nodup → ((M.set j l').filterMap LS.blk).Nodup := by
  intro M
  induction M with
  | nil => intro j l l' _ _ hq; simp at hq
  | cons z M ih =>
    intro j l l' hlt hbl hq hnd
    have hnd' : (M.filterMap LS.blk).Nodup := by
      cases hz : z.blk with
      | none => rwa [List.filterMap_cons_none hz] at hnd
      | some c => rw [List.filterMap_cons_some hz] at hnd; exact (List.nodup_cons.1 hnd).2
    cases j with
    | zero =>
      simp only [List.set_cons_zero]
      rw [List.filterMap_cons_some hbl]
      refine List.nodup_cons.2 ⟨fun hm => ?_, hnd'⟩
      obtain ⟨m, hm1, hm2⟩ := List.mem_filterMap.1 hm
      exact Nat.lt_irrefl _ (hlt m (List.mem_cons_of_mem _ hm1) _ hm2)
    | succ j =>
      simp only [List.set_cons_succ]
      have ih' := ih j l l' (fun m hm => hlt m (List.mem_cons_of_mem _ hm)) hbl (by simpa using hq) hnd'
      cases hz : z.blk with
      | none => rw [List.filterMap_cons_none hz]; exact ih'
      | some c =>
        rw [List.filterMap_cons_some hz] at hnd ⊢
        refine List.nodup_cons.2 ⟨fun hm => ?_, ih'⟩
        obtain ⟨m, hm1, hm2⟩ := List.mem_filterMap.1 hm
        rcases List.mem_or_eq_of_mem_set hm1 with hm1 | rfl
        · exact (List.nodup_cons.1 hnd).1 (List.mem_filterMap.2 ⟨m, hm1, hm2⟩)
        · rw [hbl] at hm2; simp at hm2
          have := hlt z List.mem_cons_self c hz
          omega

theorem Holds.appended (h : Holds w G T Ls) {w' : World} {j : Nat} {v v' : Value} {e bt : Nat} {K : Kd} {xs ys : List K.den} {cs news : List Value} (hj : Ls[j]? = some (.tk v e bt K xs))
    (hcs : w.ownsRow 0 e K.w v xs.length cs) (hr : jQ (Kr G K) K.w xs cs) (hrole : ∀ b, v.ownBlock = some b → G.role b = .grow .loc cs) (hys : jQ (Kr G K) K.w ys news)
    (hown : w'.ownsRow 0 e K.w v' (xs.length + ys.length) (cs ++ news)) (hcap : MJ v' bt)
    (henv : w'.os = w.os ∧ w'.tape = w.tape ∧ w'.output = w.output)
    (hv' : (v'.ownBlock = v.ownBlock ∧ w'.heap.size = w.heap.size ∧ ∀ b, v.ownBlock ≠ some b → w'.heap[b]? = w.heap[b]?) ∨
      (v'.ownBlock = some w.heap.size ∧ w'.heap.size = w.heap.size + 1 ∧ ∀ b, b ≠ w.heap.size → w'.heap[b]? = w.heap[b]?)) :
    ∃ G', G.le G' ∧ VR G' (.list K) (xs ++ ys) v' ∧ Holds w' G' T (Ls.set j (.tk v' e bt K (xs ++ ys))) := by
  have hrr : jQ (Kr G K) K.w (xs ++ ys) (cs ++ news) := F5 hr hcs.1 hys
  have hlen : (xs ++ ys).length = xs.length + ys.length := by simp
  rw [← hlen] at hown
  have hmem := List.mem_of_getElem? hj
  have fin : ∀ G', G.le G' → (∀ b, v'.ownBlock = some b → G'.role b = .grow .loc (cs ++ news)) → IL G' w' .loc e bt K (xs ++ ys) v' :=
    fun G' hle hb => ⟨cs ++ news, hown, iV (fun x cs hx => eP hle hx) hrr, hcap, hb⟩
  rcases hv' with ⟨h1, h2, h3⟩ | ⟨h1, h2, h3⟩
  · cases hb : v.ownBlock with
    | none =>
      rw [hb] at h1 h3
      have hs : ∀ b, w'.heap[b]? = w.heap[b]? := fun b => h3 b (by simp)
      have ho := fin G (Gh.le_refl G) (fun b hb => by rw [h1] at hb; simp at hb)
      refine ⟨G, Gh.le_refl G, gZ ho, ?_⟩
      refine h.change (fun _ => False) (Gh.le_refl G) henv (fun b hb => h.free b (by omega)) (fun b _ => ⟨hs b, rfl⟩) (fun _ hb => hb.elim) ?_ ?_ ?_ h.ex h.inj h.finj h.fex
      · intro b t i _ _ tab x cs' k1 k2 k3
        exact ⟨tab, x, k1, k2, bQ (w := w) (L := Ls) (Gh.le_refl G) (lh hj (fun _ _ _ => rfl) (fun _ _ _ => rfl) t i) (fun b _ _ => ⟨hs b, rfl⟩) k3⟩
      · intro l hl
        rcases List.mem_or_eq_of_mem_set hl with hl | rfl
        · exact fC (Gh.le_refl G) (fun b _ => ⟨hs b, rfl⟩) (h.loc l hl)
        · exact ho
      · refine uq hj ?_ h.nd
        simp only [LS.blk, h1, hb]
    | some g =>
      rw [hb] at h1 h3
      have hg := hrole g hb
      have hle : G.le (G.set g (.grow .loc (cs ++ news))) := Gh.Ky (by rw [hg]; exact ⟨_, _, rfl⟩)
      have ho := fin _ hle (fun b hb' => by rw [h1] at hb'; simp at hb'; subst hb'; exact Gh.aA _ _ _)
      have hs : ∀ b, b ≠ g → w'.heap[b]? = w.heap[b]? ∧ (G.set g (.grow .loc (cs ++ news))).role b = G.role b := fun b hb => ⟨h3 b (by simpa using Ne.symm hb), Gh.aW _ _ hb⟩
      refine ⟨_, hle, gZ ho, ?_⟩
      have hrf : ∀ (r : nX) b, G.role b = r → r ≠ .grow .loc cs → b ≠ g := fun r b hq hq2 he => by rw [he, hg] at hq; exact hq2 hq.symm
      refine h.change (fun b => b = g) hle henv (fun b hb => ?_) (fun b hb => hs b hb) (fun b hb => ?_) ?_ ?_ ?_ ?_ ?_ ?_ ?_
      · have := h.free b (by omega)
        rw [Gh.aW _ _ (hrf _ b this (by simp))]; exact this
      · subst hb
        obtain ⟨cur, k1, k2⟩ := xx hown h1
        unfold bJ; rw [Gh.aA]
        exact ⟨cur, e, k1, k2⟩
      · intro b t i hb1 hb2 tab x cs' k1 k2 k3
        refine ⟨tab, x, k1, k2, bQ (w := w) (L := Ls) hle (lh hj (fun _ _ _ => rfl) (fun _ _ _ => rfl) t i) (fun b f hb => hs b ?_) k3⟩
        rcases hb with hb | ⟨p, hb⟩
        · exact hrf _ b hb (by simp)
        · exact hrf _ b hb (by simp)
      · intro l hl
        rcases ny hj hb h.nd hl with rfl | ⟨hl, hne⟩
        · exact ho
        · exact fC hle (fun b hb' => hs b (fun he => by subst he; exact hne hb')) (h.loc l hl)
      · refine uq hj ?_ h.nd
        simp only [LS.blk, h1, hb]
      · intro t tab i k1 k2
        obtain ⟨b, hb⟩ := h.ex t tab i k1 k2
        exact ⟨b, by rw [Gh.aW _ _ (hrf _ b hb (by simp))]; exact hb⟩
      · intro b b' t i k1 k2
        have n1 : b ≠ g := fun he => by subst he; rw [Gh.aA] at k1; simp at k1
        have n2 : b' ≠ g := fun he => by subst he; rw [Gh.aA] at k2; simp at k2
        rw [Gh.aW _ _ n1] at k1; rw [Gh.aW _ _ n2] at k2
        exact h.inj b b' t i k1 k2
      · intro b b' t i f k1 k2
        have n1 : b ≠ g := fun he => by subst he; rw [Gh.aA] at k1; simp at k1
        have n2 : b' ≠ g := fun he => by subst he; rw [Gh.aA] at k2; simp at k2
        rw [Gh.aW _ _ n1] at k1; rw [Gh.aW _ _ n2] at k2
        exact h.finj b b' t i f k1 k2
      · intro b t i f k1
        have n1 : b ≠ g := fun he => by subst he; rw [Gh.aA] at k1; simp at k1
        rw [Gh.aW _ _ n1] at k1
        exact h.fex b t i f k1
  · have hle : G.le (G.set w.heap.size (.grow .loc (cs ++ news))) := Gh.iH h _
    have ho := fin _ hle (fun b hb' => by rw [h1] at hb'; simp at hb'; subst hb'; exact Gh.aA _ _ _)
    have hs : ∀ b, b ≠ w.heap.size → w'.heap[b]? = w.heap[b]? ∧ (G.set w.heap.size (.grow .loc (cs ++ news))).role b = G.role b := fun b hb => ⟨h3 b hb, Gh.aW _ _ hb⟩
    have hrf : ∀ b, G.role b ≠ .free → b ≠ w.heap.size := fun b hb he => hb (h.free b (by omega))
    refine ⟨_, hle, gZ ho, ?_⟩
    refine h.change (fun b => b = w.heap.size) hle henv (fun b hb => ?_) (fun b hb => hs b hb) (fun b hb => ?_) ?_ ?_ ?_ ?_ ?_ ?_ ?_
    · rw [Gh.aW _ _ (by omega)]; exact h.free b (by omega)
    · subst hb
      obtain ⟨cur, k1, k2⟩ := xx hown h1
      unfold bJ; rw [Gh.aA]
      exact ⟨cur, e, k1, k2⟩
    · intro b t i hb1 hb2 tab x cs' k1 k2 k3
      refine ⟨tab, x, k1, k2, bQ (w := w) (L := Ls) hle (lh hj (fun _ _ _ => rfl) (fun _ _ _ => rfl) t i) (fun b f hb => hs b (hrf b ?_)) k3⟩
      rcases hb with hb | ⟨p, hb⟩ <;> rw [hb] <;> simp
    · intro l hl
      rcases List.mem_or_eq_of_mem_set hl with hl | rfl
      · exact fC hle (fun b hb' => hs b (by have := h.yj hl hb'; omega)) (h.loc l hl)
      · exact ho
    · -- the new block is no other's
      exact yA Ls j _ _ (fun m hm b hb => h.yj hm hb) (by simpa [LS.blk] using h1) hj h.nd
    · intro t tab i k1 k2
      obtain ⟨b, hb⟩ := h.ex t tab i k1 k2
      exact ⟨b, by rw [Gh.aW _ _ (hrf b (by rw [hb]; simp))]; exact hb⟩
    · intro b b' t i k1 k2
      have n1 : b ≠ w.heap.size := fun he => by subst he; rw [Gh.aA] at k1; simp at k1
      have n2 : b' ≠ w.heap.size := fun he => by subst he; rw [Gh.aA] at k2; simp at k2
      rw [Gh.aW _ _ n1] at k1; rw [Gh.aW _ _ n2] at k2
      exact h.inj b b' t i k1 k2
    · intro b b' t i f k1 k2
      have n1 : b ≠ w.heap.size := fun he => by subst he; rw [Gh.aA] at k1; simp at k1
      have n2 : b' ≠ w.heap.size := fun he => by subst he; rw [Gh.aA] at k2; simp at k2
      rw [Gh.aW _ _ n1] at k1; rw [Gh.aW _ _ n2] at k2
      exact h.finj b b' t i f k1 k2
    · intro b t i f k1
      have n1 : b ≠ w.heap.size := fun he => by subst he; rw [Gh.aA] at k1; simp at k1
      rw [Gh.aW _ _ n1] at k1
      exact h.fex b t i f k1

theorem Qc {t ty e : TypeId} {inf : TypeInfo} {K : Kd} {bt n : Nat} {v : Value} {cs news : List Value} (ht : P.underlying t = some (.slice e)) (hi : P.info? e = some inf) (hok : qj inf K bt = true)
    (hown : w.ownsRow 0 e K.w v n cs) (hcap : MJ v bt) (ad : Addr) (m c : Nat) (hl : news.length = m * K.w) (hnews : ∀ j u, news[j]? = some u → w.cell? (ad.add j) = some u) (h1 : ∀ u ∈ news, u.oneCell' = true)
    (hB : (n + m) * bt ≤ 140737488355328) :
    (∃ v' w', (Builtin.append_ #[t, t] ty #[v, .slice (some ad) m c]).run P w = .ok v' w' ∧ w'.ownsRow 0 e K.w v' (n + m) (cs ++ news) ∧ MJ v' bt ∧ (w'.os = w.os ∧ w'.tape = w.tape ∧ w'.output = w.output) ∧
      ((v'.ownBlock = v.ownBlock ∧ w'.heap.size = w.heap.size ∧ ∀ b, v.ownBlock ≠ some b → w'.heap[b]? = w.heap[b]?) ∨
       (v'.ownBlock = some w.heap.size ∧ w'.heap.size = w.heap.size + 1 ∧ ∀ b, b ≠ w.heap.size → w'.heap[b]? = w.heap[b]?))) := by
  unfold qj at hok
  simp only [Bool.and_eq_true] at hok
  obtain ⟨k1, k2, k3, k4, k5⟩ := hok
  have hsize := Nat.eq_of_beq_eq_true k1
  have hby := Nat.eq_of_beq_eq_true k2
  have hsz : 0 < K.w := Nat.le_of_ble_eq_true k3
  have hb0 : 0 < bt := Nat.le_of_ble_eq_true k4
  cases hz : inf.zero with
  | none => rw [hz] at k5; simp at k5
  | some z =>
    rw [hz] at k5
    have hzs := Nat.eq_of_beq_eq_true k5
    have h63 : n + m ≤ maxLen := by
      have : n + m ≤ (n + m) * bt := Nat.le_mul_of_pos_right _ hb0
      simp only [maxLen]; omega
    obtain ⟨v', w', hr, h2, h3, h4⟩ := run_append_own (P := P) w 0 t ty e inf z K.w bt ht hi hz hsize hby hzs hsz v n cs hown ad m c news hl hnews h1 h63 hB (Nat.zero_le _)
    · refine ⟨v', w', hr, h2, trivial, ⟨h3.os, h3.tape, h3.output⟩, ?_⟩
      have hm63 : n + m ≤ 9223372036854775807 := by
        have : n + m ≤ (n + m) * bt := Nat.le_mul_of_pos_right _ hb0
        omega
      have fresh : ∀ (x : Array Value), w' = w.drew.alloc (.cells x e) → (∀ q, v' = .slice (some ⟨w.heap.size, 0, none⟩) (n + m) q → v'.ownBlock = some w.heap.size) → w'.heap.size = w.heap.size + 1 ∧ ∀ b, b ≠ w.heap.size → w'.heap[b]? = w.heap[b]? := by
        intro x hw _
        subst hw
        refine ⟨by simp, fun b hb => ?_⟩
        have := iq w.drew (.cells x e) (b := b) (by simpa using hb)
        rw [this]; rfl
      rcases hown.2 with ⟨rfl, rfl⟩ | ⟨g, cap, cur, rfl, _, hg, hnc, hcm, hcs, htake⟩
      · by_cases hm : m = 0
        · have hv : v' = .slice none 0 0 := h4.2 ⟨rfl, hm⟩
          have hw : w' = w := by
            have hn0 : news = [] := List.eq_nil_of_length_eq_zero (by rw [hl, hm]; simp)
            have : (Builtin.append_ #[t, t] ty #[.slice none 0 0, .slice (some ad) m c]).run P w = .ok (.slice none 0 0) w := by
              subst hm
              simp [Builtin.append_, run_underlying ht, sizeOf, typeInfo, hi, Builtin.lenOf, Builtin.firstCells, loadCells, loadCellsFrom]
            rw [this] at hr
            simp only [Result.ok.injEq] at hr
            exact hr.2.symm
          subst hv; subst hw
          exact .inl ⟨rfl, rfl, fun _ _ => rfl⟩
        · have hrn := run_append_nil (P := P) w t ty e inf z ht hi hz ad m c news (by rw [hl, hsize]) hnews (by omega) (by omega) (by
            rw [hby]; simp only [Nat.zero_add] at hB; omega)
          rw [hrn] at hr
          simp only [Result.ok.injEq] at hr
          obtain ⟨hv, hw⟩ := hr
          obtain ⟨f1, f2⟩ := fresh _ hw.symm (fun q hq => by rw [hq]; rfl)
          exact .inr ⟨by rw [← hv]; rfl, f1, f2⟩
      · by_cases hroom : n + m ≤ cap
        · have hfit : n * inf.size + news.length ≤ cur.size := by rw [hl, hcs, hsize, ← Nat.add_mul]; exact Nat.mul_le_mul_right _ hroom
          have hrr := run_append_room (P := P) w t ty e inf ht hi g n cap cur hg ad m c news (by rw [hl, hsize]) hnews h1 hroom hfit
          rw [hrr] at hr
          simp only [Result.ok.injEq] at hr
          obtain ⟨hv, hw⟩ := hr
          refine .inl ⟨by rw [← hv]; rfl, by rw [← hw]; simp, fun b hb => ?_⟩
          rw [← hw]
          exact setRow_other w g b _ (fun he => hb (by rw [he]; rfl))
        · have holds : ∀ j u, cs[j]? = some u → w.cell? ((⟨g, 0, none⟩ : Addr).add j) = some u := hown.cells (g := g) rfl
          have hrg := run_append_grow (P := P) w t ty e inf z ht hi hz ⟨g, 0, none⟩ n cap cs (by rw [hown.1, hsize]) holds ad m c news (by rw [hl, hsize]) hnews (by omega) (by omega) (growslice_fits (by omega) (by rw [hby]; exact hB))
          rw [hrg] at hr
          simp only [Result.ok.injEq] at hr
          obtain ⟨hv, hw⟩ := hr
          obtain ⟨f1, f2⟩ := fresh _ hw.symm (fun q hq => by rw [hq]; rfl)
          exact .inr ⟨by rw [← hv]; rfl, f1, f2⟩

end
end Go.Proofs.YtbnmhjobnepajaaGreat.M


namespace Go.Proofs.YtbnmhjobnepajaaGreat.M

def jm : List Edge → List Nat
  | [] => []
  | e :: r => (match Region.binds .any e with
    | true => e.on :: jm r
    | false => jm r)

def bitsOf (acc : List Nat) : List Nat → Nat
  | [] => 0
  | e :: r => Nat.lor (Nat.lor (2 ^ e) (acc.getD e 0)) (bitsOf acc r)

def xG : List Oper → List Nat → List Nat
  | [], acc => acc
  | o :: r, acc => xG r (acc ++ [bitsOf acc (jm o.after.toList)])

def HY : List Oper → Nat → Bool
  | [], _ => true
  | o :: r, i => (jm o.after.toList).all (fun e => Nat.blt e i) && HY r (i + 1)

def allI (f : Nat → Bool) : Nat → Bool
  | 0 => true
  | n + 1 => allI f n && f n

def Xa (f : Nat → Prop) : Nat → Prop
  | 0 => True
  | n + 1 => Xa f n ∧ f n

theorem Jd {f : Nat → Prop} : ∀ {n i : Nat}, Xa f n → i < n → f i
  | n + 1, i, ⟨h1, h2⟩, hi => by
    rcases Nat.lt_or_ge i n with h | h
    · exact Jd h1 h
    · obtain rfl : i = n := by omega
      exact h2

theorem fH {f : Nat → Bool} : ∀ {n i : Nat}, allI f n = true → i < n → f i = true
  | n + 1, i, h, hi => by
    simp only [allI, Bool.and_eq_true] at h
    rcases Nat.lt_or_ge i n with h' | h'
    · exact fH h.1 h'
    · obtain rfl : i = n := by omega
      exact h.2

theorem uI {F : Nat → Prop} {a b : Nat} (h : ∀ k, F k) : ∀ k, a ≤ k → k ≤ b → F k := fun k _ _ => h k

section
variable {P : Program} {w : World} {G : Gh} {T T' : Tabs} {Ls Ls' : List LS} {a : Act} {N : Nat} {E : Env} {ops : Array Oper} {Q : Exit → Act → World → Prop}

def aax : List Oper → Nat → Option Oper
  | [], _ => none
  | o :: _, 0 => some o
  | _ :: r, n + 1 => aax r n
theorem U6 : ∀ {l : List Oper} {n : Nat}, aax l n = l[n]?
  | [], n => by cases n <;> rfl
  | o :: r, 0 => rfl
  | o :: r, n + 1 => by rw [aax, U6]; rfl
def dH (ops : Array Oper) (i : Nat) : Option Nat := (aax ops.toList i).bind (·.dst)
theorem qX {ops : Array Oper} {i : Nat} : dH ops i = (ops[i]?).bind (·.dst) := by
  unfold dH; rw [U6, Array.getElem?_toList]

def vZ (ops : Array Oper) (s : Nat) : List Nat → Option Nat
  | [] => none
  | e :: r => (match dH ops e with
    | some d => (match Nat.beq d s with
      | true => some e
      | false => vZ ops s r)
    | none => vZ ops s r)

def slotsOf (ops : Array Oper) (o : Oper) : List Nat :=
  (o.op.operands.toList.filterMap fun x => match x with | .tmp t => some t | _ => none) ++ (match o.guard with
    | some (j, _) => (match dH ops j with | some d => [d] | none => [])
    | none => [])

def A7 (ops : Array Oper) (E : Env) (D : List En) (o : Oper) : List Nat → Env
  | [] => []
  | s :: r => (match vZ ops s (jm o.after.toList) with
    | some e => (match D[e]? with
      | some x => (s, x) :: A7 ops E D o r
      | none => A7 ops E D o r)
    | none => (match lk E s with
      | some x => (s, x) :: A7 ops E D o r
      | none => A7 ops E D o r))

def pU (ops : Array Oper) (E : Env) (D : List En) (i : Nat) : Env :=
  match ops[i]? with
  | some o => A7 ops E D o (slotsOf ops o)
  | none => []

def Y0 (ops : Array Oper) (anc : List Nat) (m i : Nat) : Bool :=
  match ops[i]? with
  | some o => (slotsOf ops o).all fun s => (match vZ ops s (jm o.after.toList) with
    | some e => Nat.blt e m && allI (fun j => Nat.beq j e || (match dH ops j with
      | some d => !(Nat.beq d s)
      | none => true)) m
    | none => allI (fun j => (match dH ops j with
      | some d => !(Nat.beq d s) || Nat.testBit (anc.getD j 0) i
      | none => true)) m)
  | none => false

def abR (anc : List Nat) : List Nat → Bool
  | [] => true
  | [_] => true
  | a :: b :: r => Nat.testBit (anc.getD b 0) a && abR anc (b :: r)

def ab1 (anc : List Nat) (loud : List Nat) (i : Nat) (r : Nat × Nat) : Bool :=
  Nat.beq r.1 (loud.filter fun l => Nat.testBit (anc.getD i 0) l).length && Nat.beq r.2 (loud.filter fun l => !(Nat.testBit (anc.getD l 0) i) && !(Nat.beq l i)).length

def aac (ops : Array Oper) (N m : Nat) : Bool :=
  allI (fun i => (match dH ops i with
    | some d => Nat.blt d N && allI (fun j => Nat.beq i j || (match dH ops j with
      | some d' => !(Nat.beq d d')
      | none => true)) m
    | none => true)) m

def LP : List Nat → Bool
  | [] => true
  | [_] => true
  | a :: b :: r => Nat.blt a b && LP (b :: r)

def NL (ops : Array Oper) (N m : Nat) (loud : List Nat) (rng : List (Nat × Nat)) : Bool :=
  let anc := xG ops.toList []
  HY ops.toList 0 && (Nat.ble m ops.size && (aac ops N m && (allI (fun i => Y0 ops anc m i) m && (LP loud && (loud.all (fun l => Nat.blt l m) && (allI (fun i => (match rng[i]? with | some r => ab1 anc loud i r | none => false)) m && allI (fun j => Nat.ble m j == false || Nat.beq (anc.getD j 0) (2 ^ j - 1)) ops.size))))))

def aa0 (P : Program) (ops : Array Oper) (Q : Exit → Act → World → Prop) (N : Nat) (E : Env) (D : List En) (loud : List Nat) (G0 : Gh) (Tk : Nat → Tabs) (Lk : Nat → Act → List LS) (i k : Nat) : Prop :=
  ∀ (a : Act) (w : World) (G : Gh), G0.le G → dD G N a (pU ops E D i) → Holds w G (Tk k) (Lk k a) →
    wpOp P ops Q i (fun a' w' => ∃ v G', a' = a.put (dH ops i) v ∧ G.le G' ∧ EnR G' (D.getD i .undef) v ∧ Holds w' G' (Tk (if loud.contains i then k + 1 else k)) (Lk (if loud.contains i then k + 1 else k) a')) a w

theorem Qa : ∀ (l : List Oper) (acc : List Nat), (xG l acc).length = acc.length + l.length
  | [], acc => by simp [xG]
  | o :: r, acc => by rw [xG, Qa r]; simp; omega

theorem Jr : ∀ (l : List Oper) (acc : List Nat) (i : Nat), i < acc.length → (xG l acc)[i]? = acc[i]?
  | [], acc, i, h => rfl
  | o :: r, acc, i, h => by
    rw [xG, Jr r _ i (by simp; omega), List.getElem?_append_left h]

theorem Uo : ∀ (l : List Oper) (acc : List Nat) (j : Nat) (o : Oper), l[j]? = some o → (xG l acc)[acc.length + j]? = some (bitsOf ((xG l acc).take (acc.length + j)) (jm o.after.toList))
  | [], acc, j, o, h => by simp at h
  | o' :: r, acc, 0, o, h => by
    simp at h; subst h
    rw [xG]
    have h1 := Jr r (acc ++ [bitsOf acc (jm o'.after.toList)]) acc.length (by simp)
    simp only [Nat.add_zero]
    rw [h1]
    simp only [List.getElem?_append_right (Nat.le_refl _), Nat.sub_self, List.getElem?_cons_zero]
    congr 2
    apply List.ext_getElem?
    intro n
    rw [List.getElem?_take]
    split
    · rename_i hn
      rw [Jr r _ n (by simp; omega), List.getElem?_append_left hn]
    · rename_i hn
      rw [List.getElem?_eq_none (by omega)]
  | o' :: r, acc, j + 1, o, h => by
    rw [xG]
    have := Uo r (acc ++ [bitsOf acc (jm o'.after.toList)]) j o (by simpa using h)
    rw [show acc.length + (j + 1) = (acc ++ [bitsOf acc (jm o'.after.toList)]).length + j by simp; omega]
    exact this

theorem Ju {acc : List Nat} : ∀ {l : List Nat} {i : Nat}, (bitsOf acc l).testBit i = true → ∃ e ∈ l, i = e ∨ (acc.getD e 0).testBit i = true
  | [], i, h => by simp [bitsOf] at h
  | e :: r, i, h => by
    simp only [bitsOf] at h
    have h' : ((2 ^ e ||| acc.getD e 0) ||| bitsOf acc r).testBit i = true := h
    rw [Nat.testBit_or, Nat.testBit_or, Bool.or_eq_true, Bool.or_eq_true, Nat.testBit_two_pow] at h'
    rcases h' with (h1 | h1) | h1
    · exact ⟨e, List.mem_cons_self, .inl (by simpa using (of_decide_eq_true h1).symm)⟩
    · exact ⟨e, List.mem_cons_self, .inr h1⟩
    · obtain ⟨e', h2, h3⟩ := Ju h1
      exact ⟨e', List.mem_cons_of_mem _ h2, h3⟩

theorem MO {l : List Edge} {e : Nat} : e ∈ jm l ↔ ∃ x ∈ l, Region.binds .any x = true ∧ x.on = e := by
  induction l with
  | nil => simp [jm]
  | cons x r ih =>
    simp only [jm]
    cases hb : Region.binds .any x with
    | true =>
      rw [List.mem_cons, ih]
      constructor
      · rintro (rfl | ⟨y, h1, h2, h3⟩)
        · exact ⟨x, List.mem_cons_self, hb, rfl⟩
        · exact ⟨y, List.mem_cons_of_mem _ h1, h2, h3⟩
      · rintro ⟨y, h1, h2, h3⟩
        rcases List.mem_cons.1 h1 with rfl | h1
        · exact .inl h3.symm
        · exact .inr ⟨y, h1, h2, h3⟩
    | false =>
      rw [ih]
      constructor
      · rintro ⟨y, h1, h2, h3⟩
        exact ⟨y, List.mem_cons_of_mem _ h1, h2, h3⟩
      · rintro ⟨y, h1, h2, h3⟩
        rcases List.mem_cons.1 h1 with rfl | h1
        · rw [hb] at h2; simp at h2
        · exact ⟨y, h1, h2, h3⟩

def Closed (ops : Array Oper) (S : Nat → Prop) : Prop := ∀ j o, S j → ops[j]? = some o → ∀ e ∈ jm o.after.toList, S e

theorem wI : ∀ {l : List Oper} {i j : Nat} {o : Oper}, HY l i = true → l[j]? = some o → ∀ e ∈ jm o.after.toList, e < i + j
  | [], i, j, o, h, hj => by simp at hj
  | o' :: r, i, 0, o, h, hj => by
    simp at hj; subst hj
    simp only [HY, Bool.and_eq_true, List.all_eq_true] at h
    intro e he
    exact Nat.le_of_ble_eq_true (h.1 e he)
  | o' :: r, i, j + 1, o, h, hj => by
    simp only [HY, Bool.and_eq_true] at h
    intro e he
    have := wI h.2 (j := j) (o := o) (by simpa using hj) e he
    omega

theorem wG {S : Nat → Prop} (hd : HY ops.toList 0 = true) (hc : Closed ops S) : ∀ (j i : Nat) (o : Oper), ops[j]? = some o → (∀ e ∈ jm o.after.toList, S e) → ((xG ops.toList []).getD j 0).testBit i = true → S i := by
  intro j
  induction j using Nat.strongRecOn with
  | _ j ih =>
    intro i o ho hr hb
    have ho' : ops.toList[j]? = some o := by simpa using ho
    have ha := Uo ops.toList [] j o ho'
    simp only [List.length_nil, Nat.zero_add] at ha
    rw [List.getD_eq_getElem?_getD, ha] at hb
    simp only [Option.getD_some] at hb
    obtain ⟨e, he, h1⟩ := Ju hb
    have hlt : e < j := by have := wI hd ho' e he; omega
    rcases h1 with rfl | h1
    · exact hr _ he
    · have he2 : ((xG ops.toList []).getD e 0).testBit i = true := by
        rw [List.getD_eq_getElem?_getD, List.getElem?_take] at h1
        rw [if_pos hlt] at h1
        rwa [List.getD_eq_getElem?_getD]
      have hS := hr e he
      have hle : e < ops.size := by
        have := (Array.getElem?_eq_some_iff.1 ho).1; omega
      exact ih e hlt i _ (Array.getElem?_eq_getElem hle) (hc e _ hS (Array.getElem?_eq_getElem hle)) he2

theorem zt {S : Nat → Prop} (hd : HY ops.toList 0 = true) (hc : Closed ops S) {j i : Nat} (hj : S j) (hb : ((xG ops.toList []).getD j 0).testBit i = true) : S i := by
  cases ho : ops[j]? with
  | none =>
    exfalso
    have : (xG ops.toList [])[j]? = none := by
      rw [List.getElem?_eq_none_iff, Qa]
      rw [Array.getElem?_eq_none_iff] at ho
      simpa using ho
    rw [List.getD_eq_getElem?_getD, this] at hb
    simp at hb
  | some o => exact wG hd hc j i o ho (hc j o hj ho) hb

def Lst (listed : Array Bool) (i : Nat) : Prop := listed.getD i false = true

theorem uy {listed : Array Bool} (hs : listed.size = ops.size) {i : Nat} : i ∈ Region.ready .any ops listed ↔ ∃ o, ops[i]? = some o ∧ ¬ Lst listed i ∧ ∀ e ∈ jm o.after.toList, Lst listed e := by
  rw [mem_ready]
  constructor
  · rintro ⟨h1, o, h2, h3⟩
    refine ⟨o, h2, ?_, ?_⟩
    · have hi : i < listed.size := by rw [hs]; exact (Array.getElem?_eq_some_iff.1 h2).1
      unfold Lst
      simp only [Array.getD_eq_getD_getElem?, Array.getElem?_eq_getElem hi, Option.getD_some] at h1 ⊢
      rw [h1]; simp
    · intro e he
      obtain ⟨x, hx, hb, rfl⟩ := MO.1 he
      exact h3 x (by simpa using hx) hb
  · rintro ⟨o, h2, h1, h3⟩
    refine ⟨?_, o, h2, fun e he hb => h3 _ (MO.2 ⟨e, by simpa using he, hb, rfl⟩)⟩
    have hi : i < listed.size := by rw [hs]; exact (Array.getElem?_eq_some_iff.1 h2).1
    unfold Lst at h1
    simp only [Array.getD_eq_getD_getElem?, Array.getElem?_eq_getElem hi, Option.getD_some] at h1 ⊢
    simpa using h1

theorem OA {listed : Array Bool} {i : Nat} (hi : i < listed.size) (j : Nat) : Lst (listed.setIfInBounds i true) j ↔ j = i ∨ Lst listed j := by
  unfold Lst
  simp only [Array.getD_eq_getD_getElem?, Array.getElem?_setIfInBounds]
  by_cases h : i = j
  · subst h; simp [hi]
  · simp [h, Ne.symm h]

theorem xy (hd : HY ops.toList 0 = true) {m : Nat} (hsuf : ∀ j, m ≤ j → j < ops.size → (xG ops.toList []).getD j 0 = 2 ^ j - 1) :
    ∀ (fuel j : Nat) (listed : Array Bool) (a : Act) (w : World), m ≤ j → listed.size = ops.size → fuel + j = ops.size → (∀ i, Lst listed i ↔ i < j) → ed P ops Q j a w → wpAny P .any ops Q fuel listed a w
  | 0, j, listed, a, w, hm, hs, hf, hl, h => by
    refine ⟨?_, ?_⟩
    · rw [List.eq_nil_iff_forall_not_mem]
      intro i hi
      obtain ⟨o, h1, h2, _⟩ := (uy hs).1 hi
      have := (Array.getElem?_eq_some_iff.1 h1).1
      exact h2 ((hl i).2 (by omega))
    · unfold ed at h
      rw [List.drop_of_length_le (by simp; omega)] at h
      exact h
  | fuel + 1, j, listed, a, w, hm, hs, hf, hl, h => by
    have hj : j < ops.size := by omega
    have hoj := Array.getElem?_eq_getElem hj
    have hoj' : ops.toList[j]? = some ops[j] := by simp
    refine ⟨fun h0 => ?_, fun i hi => ?_⟩
    · exfalso
      have : j ∈ Region.ready .any ops listed := (uy hs).2 ⟨ops[j], hoj, fun hc => by have := (hl j).1 hc; omega, fun e he => (hl e).2 (by have := wI hd hoj' e he; omega)⟩
      rw [h0] at this; exact List.not_mem_nil this
    · obtain ⟨o, h1, h2, h3⟩ := (uy hs).1 hi
      have hilt := (Array.getElem?_eq_some_iff.1 h1).1
      have hge : j ≤ i := by
        rcases Nat.lt_or_ge i j with h | h
        · exact (h2 ((hl i).2 h)).elim
        · exact h
      have hc : Closed ops (Lst listed) := by
        intro j' o' hj' ho' e he
        have : e < j' := by have := wI hd (j := j') (o := o') (by simpa using ho') e he; omega
        exact (hl e).2 (by have := (hl j').1 hj'; omega)
      have hij : i = j := by
        rcases Nat.lt_or_ge j i with h | h
        · exfalso
          have hb : ((xG ops.toList []).getD i 0).testBit j = true := by
            rw [hsuf i (by omega) hilt, Nat.testBit_two_pow_sub_one]; exact decide_eq_true h
          have := wG hd hc i j o h1 h3 hb
          have := (hl j).1 this
          omega
        · omega
      subst hij
      have hw : wpOp P ops Q i (ed P ops Q (i + 1)) a w := by
        rw [oP h1] at h
        unfold wpOp
        rw [h1]
        exact h
      refine wpOp_mono (fun a' w' h' => xy hd hsuf fuel (i + 1) _ a' w' (by omega) (by simp [hs]) (by omega) (fun q => ?_) h') hw
      rw [OA (by rw [hs]; exact hilt), hl q]
      omega

def LV (ops : Array Oper) (D : List En) : Nat → Env
  | 0 => []
  | n + 1 => (match dH ops n with
    | some d => (d, D.getD n .undef) :: LV ops D n
    | none => LV ops D n)

structure Sj (P : Program) (ops : Array Oper) (N m : Nat) (E : Env) (D : List En) (loud : List Nat) (G0 : Gh) (Tk : Nat → Tabs) (Lk : Nat → Act → List LS) (S : Nat → Prop) [DecidablePred S] (a : Act) (w : World) (G : Gh) : Prop where
  le : G0.le G
  size : a.tmps.size = N
  defs : a.defers = []
  new : ∀ i d, i < m → S i → dH ops i = some d → EnR G (D.getD i .undef) (a.tmps.getD d Go.undef)
  old : ∀ s e, lk E s = some e → (∀ i, i < m → S i → dH ops i ≠ some s) → EnR G e (a.tmps.getD s Go.undef)
  holds : Holds w G (Tk (loud.filter fun l => decide (S l)).length) (Lk (loud.filter fun l => decide (S l)).length a)

instance (listed : Array Bool) : DecidablePred (Lst listed) := fun i => by unfold Lst; exact inferInstance

theorem sF {s : Nat} : ∀ {l : List Nat} {e : Nat}, vZ ops s l = some e → e ∈ l ∧ dH ops e = some s
  | [], e, h => by simp [vZ] at h
  | x :: r, e, h => by
    unfold vZ at h
    split at h
    · rename_i d hd
      split at h
      · rename_i hb
        simp only [Option.some.injEq] at h; subst h
        exact ⟨List.mem_cons_self, by rw [hd, Nat.eq_of_beq_eq_true hb]⟩
      · obtain ⟨h1, h2⟩ := sF h
        exact ⟨List.mem_cons_of_mem _ h1, h2⟩
    · obtain ⟨h1, h2⟩ := sF h
      exact ⟨List.mem_cons_of_mem _ h1, h2⟩

theorem JG {D : List En} {o : Oper} (R : En → Value → Prop) {f : Nat → Value} :
    ∀ {l : List Nat} (h1 : ∀ s e x, s ∈ l → vZ ops s (jm o.after.toList) = some e → D[e]? = some x → R x (f s))
    (h2 : ∀ s x, s ∈ l → vZ ops s (jm o.after.toList) = none → lk E s = some x → R x (f s)) (s : Nat) (e : En), lk (A7 ops E D o l) s = some e → R e (f s)
  | [], _, _, s, e, h => by simp [A7, lk] at h
  | t :: r, h1, h2, s, e, h => by
    have ih := JG (l := r) R (fun s e x hs => h1 s e x (List.mem_cons_of_mem _ hs)) (fun s x hs => h2 s x (List.mem_cons_of_mem _ hs)) s e
    unfold A7 at h
    split at h
    · rename_i q hq
      split at h
      · rename_i x hx
        rw [dP] at h
        by_cases ht : t = s
        · subst ht; simp at h; subst h; exact h1 _ _ _ List.mem_cons_self hq hx
        · rw [if_neg ht] at h; exact ih h
      · exact ih h
    · rename_i hq
      split at h
      · rename_i x hx
        rw [dP] at h
        by_cases ht : t = s
        · subst ht; simp at h; subst h; exact h2 _ _ List.mem_cons_self hq hx
        · rw [if_neg ht] at h; exact ih h
      · exact ih h

theorem filter_le {l : List Nat} {p q : Nat → Bool} (h : ∀ x ∈ l, p x = true → q x = true) : (l.filter p).length ≤ (l.filter q).length := by
  induction l with
  | nil => simp
  | cons x l ih =>
    have ih' := ih (fun y hy => h y (List.mem_cons_of_mem _ hy))
    have hx := h x List.mem_cons_self
    cases hp : p x with
    | true => rw [List.filter_cons_of_pos hp, List.filter_cons_of_pos (hx hp)]; simp; exact ih'
    | false =>
      rw [List.filter_cons_of_neg (by simp [hp])]
      cases hq : q x with
      | true => rw [List.filter_cons_of_pos hq]; simp; omega
      | false => rw [List.filter_cons_of_neg (by simp [hq])]; exact ih'

theorem Ut : ∀ {l : List Nat} {a : Nat}, LP (a :: l) = true → ∀ x ∈ l, a < x
  | [], a, _, x, hx => by simp at hx
  | b :: r, a, h, x, hx => by
    simp only [LP, Bool.and_eq_true] at h
    have h1 : a < b := Nat.le_of_ble_eq_true h.1
    rcases List.mem_cons.1 hx with rfl | hx
    · exact h1
    · have := Ut h.2 x hx; omega

theorem VD {l : List Nat} {a : Nat} (h : LP (a :: l) = true) : LP l = true := by
  cases l with
  | nil => rfl
  | cons b r => simp only [LP, Bool.and_eq_true] at h; exact h.2

theorem wV {p q : Nat → Bool} {i : Nat} (hi : p i = false) (hq : ∀ x, q x = true ↔ x = i ∨ p x = true) : ∀ {l : List Nat}, LP l = true → (l.filter q).length = if l.contains i then (l.filter p).length + 1 else (l.filter p).length
  | [], _ => by simp
  | x :: l, h => by
    have ih := wV hi hq (VD h)
    by_cases hx : x = i
    · subst hx
      have hni : l.contains x = false := by
        cases hc : l.contains x with
        | false => rfl
        | true =>
          have := Ut h x (by simpa using hc)
          omega
      rw [hni] at ih
      rw [List.filter_cons_of_pos ((hq x).2 (.inl rfl)), List.filter_cons_of_neg (by simp [hi])]
      simp at ih ⊢
      exact ih
    · have hc : (x :: l).contains i = l.contains i := by
        simp [List.contains_cons, Ne.symm hx]
      rw [hc]
      cases hp : p x with
      | true =>
        rw [List.filter_cons_of_pos ((hq x).2 (.inr hp)), List.filter_cons_of_pos hp]
        simp only [List.length_cons, ih]
        split <;> rfl
      | false =>
        have hqx : q x = false := by
          cases hqq : q x with
          | false => rfl
          | true => rcases (hq x).1 hqq with h1 | h1
                    · exact (hx h1).elim
                    · rw [hp] at h1; simp at h1
        rw [List.filter_cons_of_neg (by simp [hqx]), List.filter_cons_of_neg (by simp [hp])]
        exact ih

theorem AO : ∀ (n a : Nat), LP (List.range' a n) = true
  | 0, a => rfl
  | 1, a => rfl
  | n + 2, a => by
    have := AO (n + 1) (a + 1)
    simp only [List.range'_succ] at this ⊢
    simp only [LP, Bool.and_eq_true]
    exact ⟨Nat.ble_eq_true_of_le (by omega), this⟩

theorem O4 {D : List En} : ∀ {n : Nat} {s : Nat} {e : En}, lk (LV ops D n) s = some e → ∃ i, i < n ∧ dH ops i = some s ∧ e = D.getD i .undef
  | 0, s, e, h => by simp [LV, lk] at h
  | n + 1, s, e, h => by
    unfold LV at h
    split at h
    · rename_i d hd
      rw [dP] at h
      by_cases hs : d = s
      · subst hs; simp at h; exact ⟨n, by omega, hd, h.symm⟩
      · rw [if_neg hs] at h
        obtain ⟨i, h1, h2, h3⟩ := O4 h
        exact ⟨i, by omega, h2, h3⟩
    · obtain ⟨i, h1, h2, h3⟩ := O4 h
      exact ⟨i, by omega, h2, h3⟩

theorem GH {D : List En} : ∀ {n : Nat} {s : Nat}, lk (LV ops D n) s = none → ∀ i, i < n → dH ops i ≠ some s
  | 0, s, h, i, hi => by omega
  | n + 1, s, h, i, hi => by
    unfold LV at h
    split at h
    · rename_i d hd
      rw [dP] at h
      by_cases hs : d = s
      · rw [if_pos hs] at h; simp at h
      · rw [if_neg hs] at h
        rcases Nat.lt_or_ge i n with h1 | h1
        · exact GH h i h1
        · obtain rfl : i = n := by omega
          rw [hd]; simpa using hs
    · rename_i hd
      rcases Nat.lt_or_ge i n with h1 | h1
      · exact GH h i h1
      · obtain rfl : i = n := by omega
        rw [hd]; simp

theorem BI {S : Nat → Prop} [DecidablePred S] : ∀ (n : Nat), ¬ S n → ∃ j, j ≤ n ∧ ¬ S j ∧ ∀ i, i < j → S i := by
  intro n
  induction n using Nat.strongRecOn with
  | _ n ih =>
    intro hn
    by_cases h : ∀ i, i < n → S i
    · exact ⟨n, Nat.le_refl _, hn, h⟩
    · obtain ⟨i, hi⟩ := Classical.not_forall.1 h
      obtain ⟨h1, h2⟩ := Classical.not_imp.1 hi
      obtain ⟨j, h3, h4, h5⟩ := ih i h1 h2
      exact ⟨j, by omega, h4, h5⟩

theorem KX {id : Nat} (m : Nat) (loud : List Nat) (rng : List (Nat × Nat)) (D : List En) (Tk : Nat → Tabs) (Lk : Nat → Act → List LS) (hm : P.follows .mixedOrders = true) (hok : NL ops N m loud rng = true)
    (hE : dD G N a E) (hH : Holds w G (Tk 0) (Lk 0 a))
    (ob : Xa (fun i => ∀ k, (rng.getD i (0, 0)).1 ≤ k → k ≤ (rng.getD i (0, 0)).2 → aa0 P ops Q N E D loud G Tk Lk i k) m)
    (fin : ∀ a' w' G', G.le G' → dD G' N a' (LV ops D m ++ E) → Holds w' G' (Tk loud.length) (Lk loud.length a') → ed P ops Q m a' w') : (Code.region id ops true).wp P Q a w := by
  unfold NL at hok
  simp only [Bool.and_eq_true] at hok
  obtain ⟨hd, hmle, hdd, hold, hasc, hlm, hrng, hsuf⟩ := hok
  have hmn : m ≤ ops.size := Nat.le_of_ble_eq_true hmle
  have hsuf' : ∀ j, m ≤ j → j < ops.size → (xG ops.toList []).getD j 0 = 2 ^ j - 1 := by
    intro j h1 h2
    have := fH hsuf h2
    simp only [Bool.or_eq_true, beq_iff_eq] at this
    rcases this with h3 | h3
    · have h4 := Nat.ble_eq_true_of_le h1; rw [h3] at h4; simp at h4
    · exact Nat.eq_of_beq_eq_true h3
  refine wp_region_any hm ?_
  have key : ∀ (fuel : Nat) (listed : Array Bool) (a : Act) (w : World) (G' : Gh), listed.size = ops.size → Closed ops (Lst listed) → (∀ j, m ≤ j → ¬ Lst listed j) →
      fuel + ((List.range m).filter fun i => decide (Lst listed i)).length = ops.size → Sj P ops N m E D loud G Tk Lk (Lst listed) a w G' → wpAny P .any ops Q fuel listed a w := by
    intro fuel
    induction fuel with
    | zero =>
      intro listed a w G' hs hc hge hf hI
      have hle : ((List.range m).filter fun i => decide (Lst listed i)).length ≤ m := by
        have := List.length_filter_le (fun i => decide (Lst listed i)) (List.range m); simpa using this
      have hall : ∀ i, i < m → Lst listed i := by
        intro i hi
        have heq : ((List.range m).filter fun i => decide (Lst listed i)).length = (List.range m).length := by simp; omega
        have := (List.length_filter_eq_length_iff.1 heq) i (by simpa using hi)
        simpa using this
      refine xy hd hsuf' 0 m listed a w (Nat.le_refl _) hs (by omega) (fun i => ⟨fun h => by
        rcases Nat.lt_or_ge i m with h' | h'
        · exact h'
        · exact (hge i h' h).elim, hall i⟩) ?_
      exact fin a w G' hI.le (par_env hI hall) (par_holds hI hall hlm)
    | succ fuel ih =>
      intro listed a w G' hs hc hge hf hI
      by_cases hall : ∀ i, i < m → Lst listed i
      · have heq : ((List.range m).filter fun i => decide (Lst listed i)).length = m := by
          rw [List.filter_eq_self.2 (fun x hx => decide_eq_true (hall x (by simpa using hx)))]; simp
        refine xy hd hsuf' (fuel + 1) m listed a w (Nat.le_refl _) hs (by omega) (fun i => ⟨fun h => by
          rcases Nat.lt_or_ge i m with h' | h'
          · exact h'
          · exact (hge i h' h).elim, hall i⟩) ?_
        exact fin a w G' hI.le (par_env hI hall) (par_holds hI hall hlm)
      · obtain ⟨i0, hi0⟩ := Classical.not_forall.1 hall
        obtain ⟨hi1, hi2⟩ := Classical.not_imp.1 hi0
        refine ⟨fun h0 => ?_, fun i hi => ?_⟩
        · exfalso
          obtain ⟨j, h3, h4, h5⟩ := BI i0 hi2
          have hj : j < ops.size := by omega
          have hoj : ops[j]? = some ops[j] := Array.getElem?_eq_getElem hj
          have : j ∈ Region.ready .any ops listed := (uy hs).2 ⟨ops[j], hoj, h4, fun e he => h5 e (by
            have := wI hd (j := j) (o := ops[j]) (by simp) e he; omega)⟩
          rw [h0] at this; exact List.not_mem_nil this
        · obtain ⟨o, h1, h2, h3⟩ := (uy hs).1 hi
          have hin := (Array.getElem?_eq_some_iff.1 h1).1
          have him : i < m := by
            rcases Nat.lt_or_ge i m with h' | h'
            · exact h'
            · exfalso
              refine hi2 (wG hd hc i i0 o h1 h3 ?_)
              rw [hsuf' i h' hin, Nat.testBit_two_pow_sub_one]
              exact decide_eq_true (by omega)
          have hdi : dH ops i = o.dst := by rw [qX, h1]; rfl
          -- the range
          have hr := fH hrng him
          have hobi := Jd ob him
          cases hri : rng[i]? with
          | none => rw [hri] at hr; simp at hr
          | some r =>
            rw [hri] at hr
            simp only [ab1, Bool.and_eq_true] at hr
            obtain ⟨hr1, hr2⟩ := hr
            have hr1 := Nat.eq_of_beq_eq_true hr1
            have hr2 := Nat.eq_of_beq_eq_true hr2
            have hget : rng.getD i (0, 0) = r := by rw [List.getD_eq_getElem?_getD, hri]; rfl
            rw [hget] at hobi
            have hlo : r.1 ≤ (loud.filter fun l => decide (Lst listed l)).length := by
              rw [hr1]
              exact filter_le (fun x _ hx => by simpa using wG hd hc i x o h1 h3 hx)
            have hhi : (loud.filter fun l => decide (Lst listed l)).length ≤ r.2 := by
              rw [hr2]
              refine filter_le (fun x _ hx => ?_)
              have hx' : Lst listed x := by simpa using hx
              simp only [Bool.and_eq_true, Bool.not_eq_true']
              refine ⟨?_, ?_⟩
              · cases hb : ((xG ops.toList []).getD x 0).testBit i with
                | false => rfl
                | true => exact (h2 (zt hd hc hx' hb)).elim
              · cases hb : Nat.beq x i with
                | false => rfl
                | true => rw [Nat.eq_of_beq_eq_true hb] at hx'; exact (h2 hx').elim
            have hob := hobi _ hlo hhi
            have hoo := fH hold him
            unfold Y0 at hoo
            rw [h1] at hoo
            simp only [List.all_eq_true] at hoo
            have hEi : dD G' N a (pU ops E D i) := by
              refine ⟨hI.size, hI.defs, fun s e hse => ?_⟩
              unfold pU at hse
              rw [h1] at hse
              refine JG (ops := ops) (E := E) (D := D) (o := o) (EnR G') (f := fun s => a.tmps.getD s Go.undef) (l := slotsOf ops o) ?_ ?_ s e hse
              · intro s e x hsl hf hx
                have hoo' := hoo s hsl
                rw [hf] at hoo'
                simp only [Bool.and_eq_true] at hoo'
                obtain ⟨q1, q2⟩ := sF hf
                have := hI.new e s (Nat.le_of_ble_eq_true hoo'.1) (h3 e q1) q2
                rwa [List.getD_eq_getElem?_getD, hx] at this
              · intro s x hsl hf hx
                have hoo' := hoo s hsl
                rw [hf] at hoo'
                simp only at hoo'
                refine hI.old s x hx (fun j hj hlj hdj => ?_)
                have := fH hoo' hj
                rw [hdj] at this
                simp only [Bool.or_eq_true, Bool.not_eq_true'] at this
                rcases this with h7 | h7
                · have := Nat.beq_refl s; rw [h7] at this; simp at this
                · exact h2 (zt hd hc hlj h7)
            refine wpOp_mono (fun a' w' h' => ?_) (hob a w G' hI.le hEi hI.holds)
            obtain ⟨v, G2, rfl, hle, hv, hh⟩ := h'
            have hil : i < listed.size := by rw [hs]; exact hin
            have hset := OA hil
            have hni : decide (Lst listed i) = false := decide_eq_false h2
            have hq : ∀ x, decide (Lst (listed.setIfInBounds i true) x) = true ↔ x = i ∨ decide (Lst listed x) = true := fun x => by
              rw [decide_eq_true_iff, decide_eq_true_iff]; exact hset x
            refine ih _ _ w' G2 (by simp [hs]) ?_ ?_ ?_ ?_
            · intro j o' hj ho' e he
              rcases (hset j).1 hj with rfl | hj
              · rw [h1] at ho'
                simp only [Option.some.injEq] at ho'; subst ho'
                exact (hset e).2 (.inr (h3 e he))
              · exact (hset e).2 (.inr (hc j o' hj ho' e he))
            · intro j hj hl
              rcases (hset j).1 hl with rfl | hl
              · omega
              · exact hge j hj hl
            · have := wV hni hq (l := List.range m) (by rw [List.range_eq_range']; exact AO m 0)
              rw [this, if_pos (by simpa using him)]
              omega
            · have hdst : ∀ d, dH ops i = some d → d < a.tmps.size := by
                intro d hdd'
                have := fH hdd him
                rw [hdd'] at this
                simp only [Bool.and_eq_true] at this
                rw [hI.size]
                exact Nat.le_of_ble_eq_true this.1
              have hsame : ∀ s, dH ops i ≠ some s → (a.put (dH ops i) v).tmps.getD s Go.undef = a.tmps.getD s Go.undef := by
                intro s hs'
                cases hdo : dH ops i with
                | none => rfl
                | some d =>
                  rw [sG (hdst d hdo), if_neg]
                  intro he; subst he; exact hs' hdo
              refine ⟨Gh.le_trans hI.le hle, ?_, ?_, ?_, ?_, ?_⟩
              · cases hdo : dH ops i with
                | none => exact hI.size
                | some d => simp [Act.put, hI.size]
              · cases hdo : dH ops i with
                | none => exact hI.defs
                | some d => simp [Act.put, hI.defs]
              · intro j d hj hl hjd
                by_cases hij : j = i
                · subst hij
                  rw [hjd, sG (hdst d hjd), if_pos rfl]
                  exact hv
                · have hl' : Lst listed j := ((hset j).1 hl).resolve_left hij
                  rw [hsame d (fun he => by
                    have := fH hdd him
                    rw [he] at this
                    simp only [Bool.and_eq_true] at this
                    have := fH this.2 hj
                    rw [hjd] at this
                    simp only [Bool.or_eq_true, Bool.not_eq_true'] at this
                    rcases this with h7 | h7
                    · exact hij (Nat.eq_of_beq_eq_true h7).symm
                    · have := Nat.beq_refl d; rw [h7] at this; simp at this)]
                  exact pY hle (hI.new j d hj hl' hjd)
              · intro s e hs' hno
                rw [hsame s (fun he => hno i him ((hset i).2 (.inl rfl)) he)]
                exact pY hle (hI.old s e hs' (fun j hj hl => hno j hj ((hset j).2 (.inr hl))))
              · have := wV hni hq (l := loud) hasc
                rw [this]
                exact hh
  have h0 : ∀ i, ¬ Lst (Array.replicate ops.size false) i := by
    intro i hi
    unfold Lst at hi
    simp only [Array.getD_eq_getD_getElem?, Array.getElem?_replicate] at hi
    split at hi <;> simp at hi
  refine key ops.size _ a _ G (by simp) (fun j o hj => (h0 j hj).elim) (fun j _ => h0 j) ?_ ⟨Gh.le_refl G, hE.1, hE.2.1, fun i d _ hi => (h0 i hi).elim, fun s e hs _ => hE.2.2 s e hs, ?_⟩
  · rw [List.filter_eq_nil_iff.2 (fun x _ => by simpa using h0 x)]; simp
  · rw [List.filter_eq_nil_iff.2 (fun x _ => by simpa using h0 x)]
    exact hH.drawn _
  where
  par_env {listed : Array Bool} {a : Act} {w : World} {G' : Gh} {Tk : Nat → Tabs} {Lk : Nat → Act → List LS} {m : Nat} {D : List En} {loud : List Nat} (hI : Sj P ops N m E D loud G Tk Lk (Lst listed) a w G') (hall : ∀ i, i < m → Lst listed i) : dD G' N a (LV ops D m ++ E) := by
    refine ⟨hI.size, hI.defs, fun s e hs => ?_⟩
    rw [jT] at hs
    cases hf : lk (LV ops D m) s with
    | some e' =>
      rw [hf] at hs; simp at hs; subst hs
      obtain ⟨i, h1, h2, rfl⟩ := O4 hf
      exact hI.new i s h1 (hall i h1) h2
    | none =>
      rw [hf] at hs; simp at hs
      exact hI.old s e hs (fun i hi _ => GH hf i hi)
  par_holds {listed : Array Bool} {a : Act} {w : World} {G' : Gh} {Tk : Nat → Tabs} {Lk : Nat → Act → List LS} {m : Nat} {D : List En} {loud : List Nat} (hI : Sj P ops N m E D loud G Tk Lk (Lst listed) a w G') (hall : ∀ i, i < m → Lst listed i) (hlm : loud.all (fun l => Nat.blt l m) = true) : Holds w G' (Tk loud.length) (Lk loud.length a) := by
    have := hI.holds
    rwa [List.filter_eq_self.2 (fun x hx => by
      simp only [List.all_eq_true] at hlm
      simpa using hall x (Nat.le_of_ble_eq_true (hlm x hx)))] at this

variable {D : List En} {loud : List Nat} {G0 : Gh} {Tk : Nat → Tabs} {Lk : Nat → Act → List LS}

def rdE (P : Program) (T : Tabs) (Ls : List LS) (ops : Array Oper) (E : Env) (i : Nat) (A : List Adv) : Option (En × List Prop × List Adv) :=
  match ops[i]? with
  | some o => (match PT P T Ls ops (look E []) o A with
    | some (e, O, A') => (match rsv (look E []) e with
      | some e' => some (e', O, A')
      | none => none)
    | none => none)
  | none => none

theorem obR {i k : Nat} (A : List Adv) (hl : loud.contains i = false) (h : ∀ a : Act, ∃ Os, wP Os ∧ rdE P (Tk k) (Lk k a) ops (pU ops E D i) i A = some (D.getD i .undef, Os, [])) (hst : ∀ a v, Lk k (Act.put a (dH ops i) v) = Lk k a := by intros; rfl) : aa0 P ops Q N E D loud G0 Tk Lk i k := by
  intro a w G hle hE hH
  obtain ⟨Os, hO, h⟩ := h a
  unfold rdE at h
  split at h
  · rename_i o ho
    split at h
    · rename_i e O A' he
      split at h
      · rename_i e' hr
        simp only [Option.some.injEq, Prod.mk.injEq] at h
        obtain ⟨rfl, rfl, rfl⟩ := h
        obtain ⟨k1, k2⟩ := Hl (P := P) hH (aI hE) he hO
        have hd : dH ops i = o.dst := by rw [qX, ho]; rfl
        unfold wpOp
        rw [ho]
        simp only [hl, Bool.false_eq_true, if_false]
        split
        · rename_i hw
          obtain ⟨v, hr', hv⟩ := k1 hw
          refine .inl ?_
          unfold Oper.wp
          rw [hr']
          exact ⟨v, G, by rw [hd], Gh.le_refl G, Ha (aI hE) hv hr, by rw [← hd, hst]; exact hH⟩
        · rename_i hw
          exact ⟨Go.undef, G, by rw [hd], Gh.le_refl G, Ha (aI hE) (k2 (by simpa using hw)) hr, by rw [← hd, hst]; exact hH⟩
      · simp at h
    · simp at h
  · simp at h

end
end Go.Proofs.YtbnmhjobnepajaaGreat.M


namespace Go.Proofs.YtbnmhjobnepajaaGreat.M

abbrev Kd.i : Kd := .int .i64

theorem bs {α β : Type} {x : Option α} {f : α → Option β} {r : β} (h : (x >>= f) = some r) : ∃ v, x = some v ∧ f v = some r := by
  cases x with
  | none => exact absurd h (by simp)
  | some v => exact ⟨v, rfl, h⟩

theorem gd {α : Type} {p : Prop} [Decidable p] {x : Option α} {r : α} (h : (if p then x else none) = some r) : p ∧ x = some r := by
  by_cases hp : p
  · rw [if_pos hp] at h; exact ⟨hp, h⟩
  · rw [if_neg hp] at h; exact absurd h (by simp)

theorem rs {α : Type} (i : α) : (some i : Option α) = some i := rfl

theorem bf {b : Bool} (h : ¬ b = true) : b = false := by cases b <;> simp_all

def ix {α : Type} (xs : List α) (i : Int) : Option α := if 0 ≤ i then xs[i.toNat]? else none

theorem Jl.of {k : Kd} {xs : List k.den} {n : Int} {y : k.den} (h : ix xs n = some y) : Jl k xs n k y := by
  unfold ix at h
  obtain ⟨h0, h⟩ := gd h
  exact Jl.mk h0 h

def Am (E : Env) : Env → Option Env
  | [] => some []
  | (s, want) :: r => (match lk E s with
    | some e => (match XA want e with
      | some e' => (match Am E r with
        | some l => some ((s, e') :: l)
        | none => none)
      | none => none)
    | none => none)

theorem Vh {G : Gh} {N : Nat} {a : Act} {E : Env} (hE : dD G N a E) : ∀ {D D' : Env}, Am E D = some D' → ∀ s e, lk D' s = some e → EnR G e (a.tmps.getD s Go.undef)
  | [], D', h, s, e, hs => by simp [Am] at h; subst h; simp [lk] at hs
  | (t, want) :: r, D', h, s, e, hs => by
    unfold Am at h
    split at h
    · rename_i e0 h0
      split at h
      · rename_i e' h1
        split at h
        · rename_i l hl
          simp only [Option.some.injEq] at h; subst h
          rw [dP] at hs
          by_cases hst : t = s
          · subst hst
            simp at hs; subst hs
            exact OG h1 (hE.2.2 _ _ h0)
          · rw [if_neg hst] at hs
            exact Vh hE hl s e hs
        · simp at h
      · simp at h
    · simp at h

theorem dD.Am {G : Gh} {N : Nat} {a : Act} {E D : Env} (hE : dD G N a E) (h : M.Am E D = some D) : dD G N a D :=
  ⟨hE.1, hE.2.1, fun s e hs => Vh hE h s e hs⟩

theorem Exit.UZ {id : Nat} {Q : Exit → Act → World → Prop} {a : Act} {w : World} (h : Q .normal a w) : Exit.inBlock id Q (.exit id) a w := by
  unfold Exit.inBlock
  simp only [if_true]
  exact h

theorem ifT {α : Type} {b : Bool} {x y : Option α} {r : α} (hc : b = true) (h : (if b = true then x else y) = some r) : x = some r := by rw [if_pos hc] at h; exact h
theorem ifF {α : Type} {b : Bool} {x y : Option α} {r : α} (hc : b = false) (h : (if b = true then x else y) = some r) : y = some r := by subst hc; exact h
theorem ifN {α : Type} {b : Bool} {x y : Option α} {r : α} (hc : ¬ b = true) (h : (if b = true then x else y) = some r) : y = some r := by rw [if_neg hc] at h; exact h
section
variable {P : Program} {w : World} {a : Act} {Q : Exit → Act → World → Prop} {K : Act → World → Prop} {id : Nat}
theorem Exit.aB (h : K a w) : Exit.then K Q .normal a w := h
theorem Exit.wO (h : Q (.exit id) a w) : Exit.then K Q (.exit id) a w := h
theorem Exit.RP (h : Q .ret a w) : Exit.then K Q .ret a w := h
theorem Exit.wJ (h : Q .normal a w) : Exit.inBlock id Q .normal a w := h
theorem Exit.acu {id' : Nat} (hne : ¬ id' = id) (h : Q (.exit id') a w) : Exit.inBlock id Q (.exit id') a w := by
  unfold Exit.inBlock; simp only [hne, if_false]; exact h
theorem zK {c : Code} (h : ∀ (Q' : Exit → Act → World → Prop) (c' : Code), Q' = Q → c' = c → Rnd P c' Q' a w) : (Code.loop c).wp P Q a w := RV (h Q c rfl rfl)
theorem CV {c c' : Code} (hc : c' = c) (h : c.wp P (Exit.then (Rnd P c' Q) Q) a w) : Rnd P c' Q a w := by subst hc; exact Zb h
end

section
variable {P : Program} {w : World} {G : Gh} {T : Tabs} {Ls : List LS} {a : Act} {N : Nat} {E : Env} {ops : Array Oper} {Q : Exit → Act → World → Prop} {D : List En} {loud : List Nat} {G0 : Gh} {Tk : Nat → Tabs} {Lk : Nat → Act → List LS}
theorem acA {i k : Nat} (A : List Adv) {e : En} (hl : loud.contains i = false) (h : ∀ a : Act, ∃ Os, wP Os ∧ rdE P (Tk k) (Lk k a) ops (pU ops E D i) i A = some (e, Os, [])) (he : e = D.getD i .undef) (hst : ∀ a v, Lk k (Act.put a (dH ops i) v) = Lk k a := by intros; rfl) : aa0 P ops Q N E D loud G0 Tk Lk i k :=
  obR A hl (fun a => by obtain ⟨Os, h1, h2⟩ := h a; exact ⟨Os, h1, by rw [h2, he]⟩) hst
theorem eb2 {D : List En} {i : Nat} {b c : Bool} (h : b = c) (hd : D.getD i .undef = En.kv .bool c) : En.kv .bool b = D.getD i .undef := by rw [hd, h]
end
end Go.Proofs.YtbnmhjobnepajaaGreat.M


namespace Go.Proofs.YtbnmhjobnepajaaGreat.M

section
variable {P : Program} {w : World} {G : Gh} {T T' : Tabs} {Ls : List LS} {a : Act} {N : Nat} {E : Env} {ops : Array Oper} {Q : Exit → Act → World → Prop}

def Qi (look : Nat → Option En) : List Operand → Option (List (Nat × Nat))
  | [] => some []
  | x :: r => (match gz look [] x with
    | some (.fldA t i 0) => (match Qi look r with
      | some l => some ((t, i) :: l)
      | none => none)
    | _ => none)

theorem Qj {L : Nat → Option En} (hL : vg G a L) : ∀ {xs : List Operand} {l : List (Nat × Nat)}, Qi L xs = some l →
    cO (fun (p : Nat × Nat) (u : Value) => ∃ b, G.role b = .obj p.1 p.2 ∧ u = .pointer (some ⟨b, 0, none⟩)) l (xs.map a.eval)
  | [], l, h => by simp [Qi] at h; subst h; trivial
  | x :: xs, l, h => by
    unfold Qi at h
    split at h
    · rename_i t i hx
      split at h
      · rename_i l' hl
        simp only [Option.some.injEq] at h; subst h
        exact ⟨dG hL (by simp) hx, Qj hL hl⟩
      · simp at h
    · simp at h

def mfE (ops : Array Oper) (E : Env) (i : Nat) : Option (Nat × List (Nat × Nat) × Option Nat) :=
  match ops[i]? with
  | some o => (match goes ops (look E []) o, o.op with
    | true, .makeFunc (.func f) first caps => (match first.toList with
      | [] => (match Qi (look E []) caps.toList with
        | some l => some (f, l, o.dst)
        | none => none)
      | _ => none)
    | _, _ => none)
  | none => none

def Yn : List (Nat × Nat) → List En
  | [] => []
  | (t, i) :: r => .fldA t i 0 :: Yn r

theorem QJ : ∀ {l : List (Nat × Nat)} {vs : List Value}, cO (fun (p : Nat × Nat) (u : Value) => ∃ b, G.role b = .obj p.1 p.2 ∧ u = .pointer (some ⟨b, 0, none⟩)) l vs → cO (EnR G) (Yn l) vs
  | [], [], h => trivial
  | (t, i) :: l, v :: vs, ⟨h1, h2⟩ => ⟨h1, QJ h2⟩
  | [], _ :: _, h => h.elim
  | _ :: _, [], h => h.elim

theorem Jb {α β : Type} {R : α → β → Prop} : ∀ {xs : List α} {ys : List β} {xs' : List α} {ys' : List β}, cO R xs ys → cO R xs' ys' → cO R (xs ++ xs') (ys ++ ys')
  | [], [], _, _, _, h => h
  | x :: xs, y :: ys, _, _, ⟨h1, h2⟩, h => ⟨h1, Jb h2 h⟩
  | [], _ :: _, _, _, h, _ => h.elim
  | _ :: _, [], _, _, h, _ => h.elim

def AddT (T T' : Tabs) (t i : Nat) (fs : List Fk) (x : az fs) : Prop := ∃ xs, T t = some ⟨fs, xs⟩ ∧ T' t = some ⟨fs, xs ++ [x]⟩ ∧ xs.length = i ∧ ∀ t', t' ≠ t → T' t' = T t'

theorem Holds.newObj (h : Holds w G T Ls) {t i : Nat} {fs : List Fk} {x : az fs} (hT : AddT T T' t i fs x) {cs : Array Value} (e : TypeId)
    (hob : pR (w.alloc (.cells cs e)) (G.set w.heap.size (.obj t i)) Ls t i 0 fs x cs.toList) : Holds (w.alloc (.cells cs e)) (G.set w.heap.size (.obj t i)) T' Ls := by
  obtain ⟨xs, h1, h2, h3, h4⟩ := hT
  subst h3
  have hno : ∀ b, G.role b ≠ .obj t xs.length := by
    intro b hb
    have := h.block b
    unfold bJ at this
    rw [hb] at this
    obtain ⟨tab, y, ce, ty, k1, k2, _⟩ := this
    rw [h1] at k1
    simp only [Option.some.injEq] at k1; subst k1
    simp at k2
  refine h.alloc _ _ T' Ls ?_ ?_ (fun _ _ _ => rfl) (fun l hl => .inl hl) h.nd ?_ ?_ (fun _ _ _ => by simp) ?_
  · unfold bJ
    rw [Gh.aA]
    exact ⟨_, x, cs, e, h2, by simp, heap_alloc_new' w _, hob⟩
  · intro b t' i' hb tab y k1 k2
    by_cases ht : t' = t
    · subst ht
      rw [h1] at k1
      simp only [Option.some.injEq] at k1; subst k1
      exact .inr ⟨[x], h2⟩
    · exact .inl (by rw [h4 _ ht]; exact k1)
  · intro t' tab i' k1 k2
    by_cases ht : t' = t
    · subst ht
      rw [h2] at k1
      simp only [Option.some.injEq] at k1; subst k1
      simp only [List.length_append, List.length_cons, List.length_nil] at k2
      rcases Nat.lt_or_ge i' xs.length with k3 | k3
      · obtain ⟨b, hb⟩ := h.ex _ _ i' h1 k3
        exact ⟨b, by rw [Gh.aW _ _ (by have := h.lt (b := b) (by rw [hb]; simp); omega)]; exact hb⟩
      · exact ⟨w.heap.size, by rw [Gh.aA, show i' = xs.length by omega]⟩
    · rw [h4 _ ht] at k1
      obtain ⟨b, hb⟩ := h.ex _ _ i' k1 k2
      exact ⟨b, by rw [Gh.aW _ _ (by have := h.lt (b := b) (by rw [hb]; simp); omega)]; exact hb⟩
  · intro t' i' hr b
    simp only [nX.obj.injEq] at hr
    obtain ⟨rfl, rfl⟩ := hr
    exact hno b
  · intro t' tab k1
    by_cases ht : t' = t
    · subst ht
      rw [h1] at k1
      simp only [Option.some.injEq] at k1; subst k1
      exact ⟨[x], h2⟩
    · exact ⟨[], by rw [h4 _ ht, k1]; simp⟩

def Xg : (fs : List Fk) → (K : Kd) → az fs → K.den → Prop
  | [], .unit, _, _ => True
  | .p k :: r, .pair k' K, x, y => k = k' ∧ HEq x.1 y.1 ∧ Xg r K x.2 y.2
  | _, _, _, _ => False

theorem MC : ∀ {fs : List Fk} {K : Kd} {x : az fs} {y : K.den} {cs : List Value} {t i f : Nat}, Xg fs K x y → Kr G K y cs → pR w G Ls t i f fs x cs
  | [], .unit, _, _, cs, _, _, _, _, h => h
  | .p k :: r, .pair k' K, x, y, cs, t, i, f, hs, h => by
    obtain ⟨rfl, h1, h2⟩ := hs
    obtain ⟨c1, c2, rfl, k1, k2⟩ := h
    refine ⟨c1, c2, rfl, ?_, MC h2 k2⟩
    have : x.1 = y.1 := eq_of_heq h1
    show Kr G k x.1 c1
    rw [this]; exact k1

end
end Go.Proofs.YtbnmhjobnepajaaGreat.M

