/- Own library, part 3: what a world holds: objects by tables, what the call's own variables hold, published rows. -/
import Derived.Test.YtlfemhkabjafeaaB2
import Derived.Room.AppendOwn
import Derived.Below
set_option linter.unusedVariables false
set_option linter.unusedSimpArgs false
namespace Go.Proofs.Ytlfemhkabjafeaa.M

inductive Fk where
  | p (k : Kd)
  | own (e bt : Nat) (k : Kd)
  | omap (kk kv : Kd)

@[reducible] def Fk.den : Fk → Type
  | .p k => k.den
  | .own _ _ k => List k.den
  | .omap kk kv => List (kk.den × kv.den)

def Fk.w : Fk → Nat
  | .p k => k.w
  | _ => 1

@[reducible] def denFs : List Fk → Type
  | [] => Unit
  | f :: r => f.den × denFs r

structure Tab where
  fs : List Fk
  xs : List (denFs fs)

abbrev Tabs := Nat → Option Tab

inductive LS where
  | tk (v : Value) (e bt : Nat) (k : Kd) (xs : List k.den)
  | arr (v : Value) (k : Kd) (xs : List k.den)
  | box (b : Nat) (k : Kd) (x : k.den)
  | mp (r : Nat) (kk kv : Kd) (m : List (kk.den × kv.den))
  | hole (t i f : Nat) (v : Value)
  | iter (r : Nat) (o : Obj)
  | raw (v : Value) (e bt : Nat) (k : Kd) (xs : List k.den)

def LS.blk : LS → Option Nat
  | .tk v _ _ _ _ => v.ownBlock
  | .arr v _ _ => v.ownBlock
  | .box b _ _ => some b
  | .mp r _ _ _ => some r
  | .hole _ _ _ _ => none
  | .iter r _ => some r
  | .raw v _ _ _ _ => v.ownBlock

/-- (A place where a list's room could be told.) -/
def capOK (_v : Value) (_bt : Nat) : Prop := True

def ownV (G : Gh) (w : World) (o : Own) (e bt : Nat) (k : Kd) (xs : List k.den) (v : Value) : Prop :=
  ∃ cs, w.ownsRow 0 e k.w v xs.length cs ∧ rowR (Kr G k) k.w xs cs ∧ capOK v bt ∧ ∀ b, v.ownBlock = some b → G.role b = .grow o cs

def mapL (G : Gh) (kk kv : Kd) (m : List (kk.den × kv.den)) (es : List MapEntry) : Prop :=
  All2 (fun (p : kk.den × kv.den) (e : MapEntry) => VR G kk p.1 e.key ∧ VR G kv p.2 e.val) m es

/-- A map's entries: what they hold, and that their stamps are old and differ. -/
def mapR (G : Gh) (kk kv : Kd) (m : List (kk.den × kv.den)) (es : List MapEntry) (cl : Nat) : Prop :=
  mapL G kk kv m es ∧ (∀ e ∈ es, e.born < cl) ∧ (es.map (·.born)).Nodup

def FkR (w : World) (G : Gh) (hl : Option Value) (t i f : Nat) : (fk : Fk) → fk.den → List Value → Prop
  | .p k, x, cs => Kr G k x cs
  | .own e bt k, xs, cs => match hl with
    | some v => cs = [v]
    | none => ∃ v, cs = [v] ∧ ownV G w (.fld t i f) e bt k xs v
  | .omap kk kv, m, cs => ∃ r es cl, cs = [.map (some r)] ∧ G.role r = .fld t i f ∧ w.heap[r]? = some (.map es cl) ∧ mapR G kk kv m es.toList cl

def holeAt (t i f : Nat) : List LS → Option Value
  | [] => none
  | .hole t' i' f' v :: r => if t' = t ∧ i' = i ∧ f' = f then some v else holeAt t i f r
  | _ :: r => holeAt t i f r

def ObjR (w : World) (G : Gh) (L : List LS) (t i : Nat) : (f : Nat) → (fs : List Fk) → denFs fs → List Value → Prop
  | _, [], _, cs => cs = []
  | f, fk :: r, x, cs => ∃ c1 c2, cs = c1 ++ c2 ∧ FkR w G (holeAt t i f L) t i f fk x.1 c1 ∧ ObjR w G L t i (f + 1) r x.2 c2

def LSR (w : World) (G : Gh) : LS → Prop
  | .tk v e bt k xs => ownV G w .loc e bt k xs v
  | .arr v k xs => ∃ b off c ce ty, v = .slice (some ⟨b, off, none⟩) xs.length c ∧ G.role b = .loc ∧ w.heap[b]? = some (.cells ce ty (0, 0)) ∧ xs.length ≤ c ∧ off + c * k.w ≤ ce.size ∧ rowR (Kr G k) k.w xs (ce.toList.drop off)
  | .box b k x => G.role b = .loc ∧ ∃ ce ty, w.heap[b]? = some (.cells ce ty (0, 0)) ∧ Kr G k x ce.toList
  | .mp r kk kv m => G.role r = .loc ∧ ∃ es cl, w.heap[r]? = some (.map es cl) ∧ mapR G kk kv m es.toList cl
  | .hole _ _ _ _ => True
  | .iter r o => G.role r = .loc ∧ w.heap[r]? = some o
  | .raw v e bt k xs => ∃ cs, w.ownsRow 0 e k.w v xs.length cs ∧ rowR (Kr G k) k.w xs cs ∧ capOK v bt ∧ ∀ b, v.ownBlock = some b → G.role b = .loc

def BlockOK (w : World) (G : Gh) (T : Tabs) (L : List LS) (b : Nat) : Prop :=
  match G.role b with
  | .pub o => w.heap[b]? = some o
  | .grow _ p => ∃ ce ty, w.heap[b]? = some (.cells ce ty (0, 0)) ∧ ∃ rest, ce.toList = p ++ rest
  | .obj t i => ∃ tab x ce ty, T t = some tab ∧ tab.xs[i]? = some x ∧ w.heap[b]? = some (.cells ce ty (0, 0)) ∧ ObjR w G L t i 0 tab.fs x ce.toList
  | _ => True

structure Holds (w : World) (G : Gh) (T : Tabs) (L : List LS) : Prop where
  os : w.os = G.base.os
  tape : w.tape = G.base.tape
  output : w.output = G.base.output
  free : ∀ b, w.heap.size ≤ b → G.role b = .free
  block : ∀ b, BlockOK w G T L b
  ex : ∀ t tab i, T t = some tab → i < tab.xs.length → ∃ b, G.role b = .obj t i
  inj : ∀ b b' t i, G.role b = .obj t i → G.role b' = .obj t i → b = b'
  finj : ∀ b b' t i f, G.role b = .fld t i f → G.role b' = .fld t i f → b = b'
  fex : ∀ b t i f, G.role b = .fld t i f → ∃ tab, T t = some tab ∧ i < tab.xs.length
  loc : ∀ l ∈ L, LSR w G l
  nd : (L.filterMap LS.blk).Nodup

section
variable {w w' : World} {G G' : Gh} {T T' : Tabs} {L L' : List LS}

theorem Holds.lt (h : Holds w G T L) {b : Nat} (hb : G.role b ≠ .free) : b < w.heap.size := by
  rcases Nat.lt_or_ge b w.heap.size with h1 | h1
  · exact h1
  · exact (hb (h.free b h1)).elim

theorem ownsRow_keep {base : Nat} {e size n : Nat} {v : Value} {xs : List Value} (h : w.ownsRow base e size v n xs) (hs : ∀ b, v.ownBlock = some b → w'.heap[b]? = w.heap[b]?) : w'.ownsRow base e size v n xs := by
  refine ⟨h.1, ?_⟩
  rcases h.2 with hn | ⟨g, cap, cur, rfl, hb, hg, rest⟩
  · exact .inl hn
  · exact .inr ⟨g, cap, cur, rfl, hb, by rw [hs g rfl]; exact hg, rest⟩

theorem ownV_keep (hle : G.le G') {o : Own} {e bt : Nat} {k : Kd} {xs : List k.den} {v : Value} (hs : ∀ b, v.ownBlock = some b → w'.heap[b]? = w.heap[b]? ∧ G'.role b = G.role b)
    (h : ownV G w o e bt k xs v) : ownV G' w' o e bt k xs v := by
  obtain ⟨cs, h1, h2, h3, h4⟩ := h
  exact ⟨cs, ownsRow_keep h1 (fun b hb => (hs b hb).1), rowR_mono (fun x cs hx => Kr_mono hle hx) h2, h3, fun b hb => by rw [(hs b hb).2]; exact h4 b hb⟩

theorem mapL_mono (hle : G.le G') {kk kv : Kd} {m : List (kk.den × kv.den)} {es : List MapEntry} (h : mapL G kk kv m es) : mapL G' kk kv m es :=
  All2.imp (fun _ _ hx => ⟨VR_mono hle hx.1, VR_mono hle hx.2⟩) h

theorem mapR_mono (hle : G.le G') {kk kv : Kd} {m : List (kk.den × kv.den)} {es : List MapEntry} {cl : Nat} (h : mapR G kk kv m es cl) : mapR G' kk kv m es cl := ⟨mapL_mono hle h.1, h.2⟩

theorem FkR_keep (hle : G.le G') {hl : Option Value} {t i f : Nat} {fk : Fk} {x : fk.den} {cs : List Value}
    (hs : ∀ b, (G.role b = .fld t i f ∨ ∃ p, G.role b = .grow (.fld t i f) p) → w'.heap[b]? = w.heap[b]? ∧ G'.role b = G.role b)
    (h : FkR w G hl t i f fk x cs) : FkR w' G' hl t i f fk x cs := by
  cases fk with
  | p k => exact Kr_mono hle h
  | own e bt k =>
    cases hl with
    | some v => exact h
    | none =>
      obtain ⟨v, rfl, hv⟩ := h
      refine ⟨v, rfl, ownV_keep hle (fun b hb => hs b ?_) hv⟩
      obtain ⟨cs, _, _, _, h4⟩ := hv
      exact .inr ⟨cs, h4 b hb⟩
  | omap kk kv =>
    obtain ⟨r, es, cl, rfl, hr, hh, hm⟩ := h
    obtain ⟨h1, h2⟩ := hs r (.inl hr)
    exact ⟨r, es, cl, rfl, by rw [h2]; exact hr, by rw [h1]; exact hh, mapR_mono hle hm⟩

theorem ObjR_keep (hle : G.le G') {t i : Nat} (hL : ∀ f, holeAt t i f L' = holeAt t i f L)
    (hs : ∀ b f, (G.role b = .fld t i f ∨ ∃ p, G.role b = .grow (.fld t i f) p) → w'.heap[b]? = w.heap[b]? ∧ G'.role b = G.role b) :
    ∀ {f : Nat} {fs : List Fk} {x : denFs fs} {cs : List Value}, ObjR w G L t i f fs x cs → ObjR w' G' L' t i f fs x cs
  | _, [], _, _, h => h
  | f, fk :: r, x, cs, ⟨c1, c2, hc, h1, h2⟩ => ⟨c1, c2, hc, by rw [hL]; exact FkR_keep hle (fun b hb => hs b f hb) h1, ObjR_keep hle hL hs h2⟩

theorem LSR_keep (hle : G.le G') {l : LS} (hs : ∀ b, l.blk = some b → w'.heap[b]? = w.heap[b]? ∧ G'.role b = G.role b) (h : LSR w G l) : LSR w' G' l := by
  cases l with
  | tk v e bt k xs => exact ownV_keep hle hs h
  | arr v k xs =>
    obtain ⟨b, off, c, ce, ty, rfl, h1, h2, h3, h4, h5⟩ := h
    obtain ⟨k1, k2⟩ := hs b rfl
    exact ⟨b, off, c, ce, ty, rfl, by rw [k2]; exact h1, by rw [k1]; exact h2, h3, h4, rowR_mono (fun x cs hx => Kr_mono hle hx) h5⟩
  | box b k x =>
    obtain ⟨h1, ce, ty, h2, h3⟩ := h
    obtain ⟨k1, k2⟩ := hs b rfl
    exact ⟨by rw [k2]; exact h1, ce, ty, by rw [k1]; exact h2, Kr_mono hle h3⟩
  | mp r kk kv m =>
    obtain ⟨h1, es, cl, h2, h3⟩ := h
    obtain ⟨k1, k2⟩ := hs r rfl
    exact ⟨by rw [k2]; exact h1, es, cl, by rw [k1]; exact h2, mapR_mono hle h3⟩
  | hole => trivial
  | iter r o => obtain ⟨k1, k2⟩ := hs r rfl; exact ⟨by rw [k2]; exact h.1, by rw [k1]; exact h.2⟩
  | raw v e bt k xs =>
    obtain ⟨cs, h1, h2, h3, h4⟩ := h
    exact ⟨cs, ownsRow_keep h1 (fun b hb => (hs b hb).1), rowR_mono (fun x cs hx => Kr_mono hle hx) h2, h3, fun b hb => by rw [(hs b hb).2]; exact h4 b hb⟩

/-- The general change: what is not touched stays as it was. -/
theorem Holds.change (h : Holds w G T L) (X : Nat → Prop) (hle : G.le G')
    (henv : w'.os = w.os ∧ w'.tape = w.tape ∧ w'.output = w.output)
    (hfree : ∀ b, w'.heap.size ≤ b → G'.role b = .free)
    (hX : ∀ b, ¬ X b → w'.heap[b]? = w.heap[b]? ∧ G'.role b = G.role b)
    (hin : ∀ b, X b → BlockOK w' G' T' L' b)
    (hobj : ∀ b t i, ¬ X b → G.role b = .obj t i → ∀ tab x cs, T t = some tab → tab.xs[i]? = some x → ObjR w G L t i 0 tab.fs x cs →
      ∃ tab' x', T' t = some tab' ∧ tab'.xs[i]? = some x' ∧ ObjR w' G' L' t i 0 tab'.fs x' cs)
    (hloc : ∀ l ∈ L', LSR w' G' l) (hnd : (L'.filterMap LS.blk).Nodup)
    (hex : ∀ t tab i, T' t = some tab → i < tab.xs.length → ∃ b, G'.role b = .obj t i)
    (hinj : ∀ b b' t i, G'.role b = .obj t i → G'.role b' = .obj t i → b = b')
    (hfinj : ∀ b b' t i f, G'.role b = .fld t i f → G'.role b' = .fld t i f → b = b')
    (hfex : ∀ b t i f, G'.role b = .fld t i f → ∃ tab, T' t = some tab ∧ i < tab.xs.length) : Holds w' G' T' L' where
  os := by rw [henv.1, h.os, hle.1]
  tape := by rw [henv.2.1, h.tape, hle.1]
  output := by rw [henv.2.2, h.output, hle.1]
  free := hfree
  block := by
    intro b
    by_cases hb : X b
    · exact hin b hb
    · obtain ⟨h1, h2⟩ := hX b hb
      have := h.block b
      unfold BlockOK at this ⊢
      rw [h2]
      cases hr : G.role b with
      | pub o => rw [hr] at this; rw [h1]; exact this
      | grow o p => rw [hr] at this; rw [h1]; exact this
      | obj t i =>
        rw [hr] at this
        obtain ⟨tab, x, ce, ty, k1, k2, k3, k4⟩ := this
        obtain ⟨tab', x', j1, j2, j3⟩ := hobj b t i hb hr tab x _ k1 k2 k4
        exact ⟨tab', x', ce, ty, j1, j2, by rw [h1]; exact k3, j3⟩
      | _ => trivial
  ex := hex
  inj := hinj
  finj := hfinj
  fex := hfex
  loc := hloc
  nd := hnd

/-- Nothing but the count of draws turns. -/
theorem Holds.drawn (h : Holds w G T L) (n : Nat) : Holds { w with drawn := n } G T L :=
  h.change (fun _ => False) (Gh.le_refl G) ⟨rfl, rfl, rfl⟩ h.free (fun b _ => ⟨rfl, rfl⟩) (fun _ hb => hb.elim)
    (fun b t i _ _ tab x cs h1 h2 h3 => ⟨tab, x, h1, h2, ObjR_keep (w := w) (w' := { w with drawn := n }) (L := L) (Gh.le_refl G) (fun _ => rfl) (fun _ _ _ => ⟨rfl, rfl⟩) h3⟩)
    (fun l hl => LSR_keep (w := w) (w' := { w with drawn := n }) (Gh.le_refl G) (fun _ _ => ⟨rfl, rfl⟩) (h.loc l hl)) h.nd h.ex h.inj h.finj h.fex

def Gh.set (G : Gh) (b : Nat) (r : Role) : Gh := { G with role := fun b' => if b' = b then r else G.role b' }

theorem Gh.set_same (G : Gh) (b : Nat) (r : Role) : (G.set b r).role b = r := by simp [Gh.set]
theorem Gh.set_ne (G : Gh) {b b' : Nat} (r : Role) (h : b' ≠ b) : (G.set b r).role b' = G.role b' := by simp [Gh.set, h]

theorem Gh.le_set {b : Nat} {r : Role} (h : (G.role b).le r) : G.le (G.set b r) := by
  refine ⟨rfl, fun b' => ?_⟩
  by_cases hb : b' = b
  · subst hb; rw [Gh.set_same]; exact h
  · rw [Gh.set_ne _ _ hb]; exact Role.le_refl _

theorem Gh.le_new (h : Holds w G T L) (r : Role) : G.le (G.set w.heap.size r) :=
  Gh.le_set (by rw [h.free _ (Nat.le_refl _)]; trivial)

theorem heap_alloc_new' (w : World) (o : Obj) : (w.alloc o).heap[w.heap.size]? = some o := by simp only [World.alloc, Array.getElem?_push, if_true]
theorem heap_alloc_ne (w : World) (o : Obj) {b : Nat} (h : b ≠ w.heap.size) : (w.alloc o).heap[b]? = w.heap[b]? := by
  simp only [World.alloc, Array.getElem?_push]
  simp [h]

/-- A new block: what lay before stays. The tables may name it. -/
theorem Holds.alloc (h : Holds w G T L) (o : Obj) (r : Role) (T' : Tabs) (L' : List LS)
    (hok : BlockOK (w.alloc o) (G.set w.heap.size r) T' L' w.heap.size)
    (hT : ∀ b t i, G.role b = .obj t i → ∀ tab x, T t = some tab → tab.xs[i]? = some x → T' t = some tab ∨ ∃ xs, T' t = some ⟨tab.fs, tab.xs ++ xs⟩)
    (hhole : ∀ t i f, holeAt t i f L' = holeAt t i f L)
    (hloc : ∀ l ∈ L', l ∈ L ∨ LSR (w.alloc o) (G.set w.heap.size r) l) (hnd : (L'.filterMap LS.blk).Nodup)
    (hex : ∀ t tab i, T' t = some tab → i < tab.xs.length → ∃ b, (G.set w.heap.size r).role b = .obj t i)
    (hinj : ∀ t i, r = .obj t i → ∀ b, G.role b ≠ .obj t i) (hfinj : ∀ t i f, r ≠ .fld t i f)
    (hT2 : ∀ t tab, T t = some tab → ∃ xs, T' t = some ⟨tab.fs, tab.xs ++ xs⟩) : Holds (w.alloc o) (G.set w.heap.size r) T' L' := by
  have hsame : ∀ b, b ≠ w.heap.size → (w.alloc o).heap[b]? = w.heap[b]? ∧ (G.set w.heap.size r).role b = G.role b :=
    fun b hb => ⟨heap_alloc_ne w o hb, Gh.set_ne _ _ hb⟩
  have hne : ∀ b, G.role b ≠ .free → b ≠ w.heap.size := fun b hb he => hb (h.free b (by omega))
  refine h.change (fun b => b = w.heap.size) (Gh.le_new h r) ⟨rfl, rfl, rfl⟩ ?_ hsame (fun b hb => by subst hb; exact hok) ?_ ?_ hnd hex ?_ ?_ ?_
  · intro b hb
    simp at hb
    rw [Gh.set_ne _ _ (by omega)]
    exact h.free b (by omega)
  · intro b t i hb hr tab x cs h1 h2 h3
    have h3' : ObjR (w.alloc o) (G.set w.heap.size r) L' t i 0 tab.fs x cs := by
      refine ObjR_keep (Gh.le_new h r) (fun f => hhole t i f) (fun b f hb => hsame b (hne b ?_)) h3
      rcases hb with hb | ⟨p, hb⟩ <;> rw [hb] <;> simp
    rcases hT b t i hr tab x h1 h2 with h4 | ⟨xs, h4⟩
    · exact ⟨tab, x, h4, h2, h3'⟩
    · refine ⟨⟨tab.fs, tab.xs ++ xs⟩, x, h4, ?_, h3'⟩
      rw [List.getElem?_append_left (List.getElem?_eq_some_iff.1 h2).1]; exact h2
  · intro l hl
    rcases hloc l hl with h1 | h1
    · refine LSR_keep (Gh.le_new h r) (fun b hb => hsame b (hne b ?_)) (h.loc l h1)
      have hr := h.loc l h1
      cases l with
      | tk v e bt k xs => obtain ⟨cs, _, _, _, h4⟩ := hr; rw [h4 b hb]; simp
      | arr v k xs => obtain ⟨b', off, c, ce, ty, rfl, k1, _⟩ := hr; simp [LS.blk, Value.ownBlock] at hb; subst hb; rw [k1]; simp
      | box b' k x => simp [LS.blk] at hb; subst hb; rw [hr.1]; simp
      | mp b' kk kv m => simp [LS.blk] at hb; subst hb; rw [hr.1]; simp
      | hole => simp [LS.blk] at hb
      | iter b' o => simp [LS.blk] at hb; subst hb; rw [hr.1]; simp
      | raw v e bt k xs => obtain ⟨cs, _, _, _, h4⟩ := hr; rw [h4 b hb]; simp
    · exact h1
  · intro b b' t i h1 h2
    by_cases hb : b = w.heap.size
    · by_cases hb' : b' = w.heap.size
      · rw [hb, hb']
      · subst hb
        rw [Gh.set_same] at h1
        rw [Gh.set_ne _ _ hb'] at h2
        exact (hinj t i h1 b' h2).elim
    · by_cases hb' : b' = w.heap.size
      · subst hb'
        rw [Gh.set_same] at h2
        rw [Gh.set_ne _ _ hb] at h1
        exact (hinj t i h2 b h1).elim
      · rw [Gh.set_ne _ _ hb] at h1
        rw [Gh.set_ne _ _ hb'] at h2
        exact h.inj b b' t i h1 h2
  · intro b b' t i f h1 h2
    have hb : b ≠ w.heap.size := fun hb => by subst hb; rw [Gh.set_same] at h1; exact hfinj t i f h1
    have hb' : b' ≠ w.heap.size := fun hb => by subst hb; rw [Gh.set_same] at h2; exact hfinj t i f h2
    rw [Gh.set_ne _ _ hb] at h1
    rw [Gh.set_ne _ _ hb'] at h2
    exact h.finj b b' t i f h1 h2
  · intro b t i f h1
    have hb : b ≠ w.heap.size := fun hb => by subst hb; rw [Gh.set_same] at h1; exact hfinj t i f h1
    rw [Gh.set_ne _ _ hb] at h1
    obtain ⟨tab, h2, h3⟩ := h.fex b t i f h1
    obtain ⟨xs, h4⟩ := hT2 t tab h2
    exact ⟨_, h4, by simp; omega⟩

/-- The blocks of the call's own variables bear no other role. -/
theorem Holds.loc_role (h : Holds w G T L) {l : LS} (hl : l ∈ L) {b : Nat} (hb : l.blk = some b) : G.role b = .loc ∨ ∃ p, G.role b = .grow .loc p := by
  have hr := h.loc l hl
  cases l with
  | tk v e bt k xs => obtain ⟨cs, _, _, _, h4⟩ := hr; exact .inr ⟨cs, h4 b hb⟩
  | arr v k xs => obtain ⟨b', off, c, ce, ty, rfl, k1, _⟩ := hr; simp [LS.blk, Value.ownBlock] at hb; subst hb; exact .inl k1
  | box b' k x => simp [LS.blk] at hb; subst hb; exact .inl hr.1
  | mp b' kk kv m => simp [LS.blk] at hb; subst hb; exact .inl hr.1
  | hole => simp [LS.blk] at hb
  | iter b' o => simp [LS.blk] at hb; subst hb; exact .inl hr.1
  | raw v e bt k xs => obtain ⟨cs, _, _, _, h4⟩ := hr; exact .inl (h4 b hb)

end
end Go.Proofs.Ytlfemhkabjafeaa.M
