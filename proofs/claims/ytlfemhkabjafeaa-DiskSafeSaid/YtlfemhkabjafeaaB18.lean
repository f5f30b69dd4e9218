/- Own library, part 18: ranging over a map in a field. -/
import Derived.Test.YtlfemhkabjafeaaB17
set_option linter.unusedVariables false
set_option linter.unusedSimpArgs false
namespace Go.Proofs.Ytlfemhkabjafeaa.M

section
variable {P : Program} {w : World} {G : Gh} {T T' : Tabs} {Ls : List LS} {a : Act} {N : Nat} {E : Env} {ops : Array Oper} {Q : Exit → Act → World → Prop}

/-- The iterator's content. -/
abbrev itO (mr cl : Nat) (seen : Array Nat) : Obj := .mapIter (some mr) cl seen cl

theorem Holds.newIter (h : Holds w G T Ls) (o : Obj) : Holds (w.alloc o) (G.set w.heap.size .loc) T (.iter w.heap.size o :: Ls) :=
  h.allocLoc _ .loc _ (.inl rfl) (by unfold BlockOK; rw [Gh.set_same]; trivial) ⟨Gh.set_same _ _ _, heap_alloc_new' w _⟩ rfl (fun _ _ _ => rfl)

/-- The iterator at the head of the own variables turns. -/
theorem Holds.iterTurn {r : Nat} {o : Obj} (h : Holds w G T (.iter r o :: Ls)) (o' : Obj) : Holds (setH w r o') G T (.iter r o' :: Ls) := by
  obtain ⟨hr, hh⟩ := h.loc _ List.mem_cons_self
  have hnr : r ∉ Ls.filterMap LS.blk := by
    have := h.nd
    rw [List.filterMap_cons_some (show LS.blk (.iter r o) = some r from rfl)] at this
    exact (List.nodup_cons.1 this).1
  refine h.change (fun b => b = r) (Gh.le_refl G) ⟨rfl, rfl, rfl⟩ ?_ (fun b hb => ⟨setH_ne hb, rfl⟩) (fun b hb => by subst hb; unfold BlockOK; rw [hr]; trivial) ?_ ?_ ?_ h.ex h.inj h.finj h.fex
  · intro b hb; simp [setH] at hb; exact h.free b hb
  · intro b t i hb hb' tab x cs k1 k2 k3
    refine ⟨tab, x, k1, k2, ObjR_keep (w := w) (Gh.le_refl G) (fun f => ?_) (fun b2 f2 hb2 => ⟨setH_ne ?_, rfl⟩) k3⟩
    · rw [holeAt_cons (fun _ _ _ => rfl), holeAt_cons (fun _ _ _ => rfl)]
    · intro he; subst he
      rcases hb2 with hb2 | ⟨p, hb2⟩ <;> rw [hr] at hb2 <;> simp at hb2
  · intro l hl
    rcases List.mem_cons.1 hl with rfl | hl'
    · exact ⟨hr, setH_same hh⟩
    · refine LSR_keep (w := w) (Gh.le_refl G) (fun b hb => ⟨setH_ne ?_, rfl⟩) (h.loc l (List.mem_cons_of_mem _ hl'))
      intro he; subst he
      exact hnr (List.mem_filterMap.2 ⟨l, hl', hb⟩)
  · have := h.nd
    rw [List.filterMap_cons_some (show LS.blk (.iter r o) = some r from rfl)] at this
    rw [List.filterMap_cons_some (show LS.blk (.iter r o') = some r from rfl)]
    exact this

def rangeE (P : Program) (ops : Array Oper) (E : Env) (i : Nat) : Option (En × Option Nat) :=
  match ops[i]? with
  | some o => (match goes ops (look E []) o, o.op with
    | true, .range ty x => (match P.underlying ty, opnd (look E []) [] x with
      | some (.map _ _), some e => some (e, o.dst)
      | _, _ => none)
    | _, _ => none)
  | none => none

theorem stepRange {kk kv : Kd} {t j f : Nat} {m : List (kk.den × kv.den)} {fs : List Fk} {x : denFs fs} {d : Option Nat} {i : Nat} (hE : EnvR G N a E) (hH : Holds w G T Ls) (hb : rangeE P ops E i = some (.fm t j f, d)) (hd : dstOK d N = true)
    (ho : ObAt T t j fs x) (hm : mapO fs x f = some ⟨kk, kv, m⟩)
    (k : ∀ r mr es cl a' w' G', G.le G' → EnvR G' N a' (putE d (.val (.pointer (some ⟨r, 0, none⟩))) E) → Holds w' G' T (.iter r (itO mr cl #[]) :: Ls) → w'.heap[mr]? = some (.map es cl) → G'.role mr = .fld t j f → mapR G' kk kv m es.toList cl → wpFrom P ops Q (i + 1) a' w') : wpFrom P ops Q i a w := by
  unfold rangeE at hb
  split at hb
  · rename_i o hop
    split at hb
    · rename_i ty x0 hg hop'
      split at hb
      · rename_i kt et e hu hx
        simp only [Option.some.injEq, Prod.mk.injEq] at hb
        obtain ⟨rfl, rfl⟩ := hb
        have hv1 := opnd_ok (CurR_start hE) (by simp) hx
        obtain ⟨mr, es, cl, hv, hr, hh, hmm⟩ := fm_at hH hv1 ho hm
        have hgo : (getObj mr).run P w = .ok (.map es cl) w := by simp [getObj, Sem.run, hh]
        have hlt : mr < w.heap.size := hH.lt (by rw [hr]; simp)
        refine wpFrom_value hop (goes_ok (CurR_start hE) hg) (v := .pointer (some ⟨w.heap.size, 0, none⟩)) (w' := w.alloc (itO mr cl #[])) ?_
          (k w.heap.size mr es cl _ _ _ (Gh.le_new hH .loc) ((hE.mono (Gh.le_new hH .loc)).putO hd rfl) (hH.newIter _) ?_ ?_ (mapR_mono (Gh.le_new hH _) hmm))
        · simp only [execOp, hop', hv]
          refine run_val ?_
          unfold Instr.range
          rw [run_und hu]
          simp [hgo, newObj, Sem.run]
        · rw [heap_alloc_ne w _ (by omega)]; exact hh
        · rw [Gh.set_ne _ _ (by omega)]; exact hr
      · simp at hb
    · simp at hb
  · simp at hb

theorem run_mapNext (n : Nat) (hn : 0 < n) : ∃ c n', (choose (.mapNext n)).run P w = .ok c { w with drawn := n' } ∧ c < n := by
  by_cases h1 : n ≤ 1
  · refine ⟨0, w.drawn, ?_, hn⟩
    simp [choose, Sem.run, Question.forced, h1]
  · refine ⟨(Question.mapNext n).cut (w.tape w.drawn (.mapNext n)), w.drawn + 1, ?_, ?_⟩
    · simp [choose, Sem.run, Question.forced, h1]
    · simp only [Question.cut]
      exact Nat.mod_lt _ hn

theorem mapL_get {G : Gh} {kk kv : Kd} : ∀ {m : List (kk.den × kv.den)} {es : List MapEntry} {i : Nat} {e : MapEntry}, mapL G kk kv m es → es[i]? = some e → ∃ p, m[i]? = some p ∧ VR G kk p.1 e.key ∧ VR G kv p.2 e.val
  | [], [], i, e, _, h => by simp at h
  | p :: m, e0 :: es, 0, e, ⟨h1, h2⟩, h => by
    simp at h; subst h
    exact ⟨p, rfl, h1⟩
  | p :: m, e0 :: es, i + 1, e, ⟨h1, h2⟩, h => by
    obtain ⟨q, k1, k2⟩ := mapL_get h2 (by simpa using h)
    exact ⟨q, by simpa using k1, k2⟩
  | [], _ :: _, _, _, h, _ => h.elim
  | _ :: _, [], _, _, h, _ => h.elim

def nextE (ops : Array Oper) (E : Env) (i : Nat) : Option (En × Option Nat) :=
  match ops[i]? with
  | some o => (match goes ops (look E []) o, o.op with
    | true, .next x false => (match opnd (look E []) [] x with
      | some e => some (e, o.dst)
      | none => none)
    | _, _ => none)
  | none => none

theorem stepNext {kk kv : Kd} {r mr cl : Nat} {es : Array MapEntry} {seen : Array Nat} {m : List (kk.den × kv.den)} {d : Option Nat} {i : Nat} (hE : EnvR G N a E) (hH : Holds w G T (.iter r (itO mr cl seen) :: Ls)) (hh : w.heap[mr]? = some (.map es cl)) (hm : mapR G kk kv m es.toList cl)
    (hb : nextE ops E i = some (.val (.pointer (some ⟨r, 0, none⟩)), d)) (hd : dstOK d N = true)
    (kover : (∀ e ∈ es.toList, e.born ∈ seen.toList) → ∀ a' w', EnvR G N a' (putE d (.tup [⟨.bool, false⟩]) E) → Holds w' G T (.iter r (itO mr cl seen) :: Ls) → wpFrom P ops Q (i + 1) a' w')
    (kgo : ∀ (ix : Nat) (e : MapEntry) (p : kk.den × kv.den), es.toList[ix]? = some e → m[ix]? = some p → e.born ∉ seen.toList → ∀ a' w', EnvR G N a' (putE d (.tup [⟨.bool, true⟩, ⟨kk, p.1⟩, ⟨kv, p.2⟩]) E) → Holds w' G T (.iter r (itO mr cl (seen.push e.born)) :: Ls) → w'.heap[mr]? = some (.map es cl) → wpFrom P ops Q (i + 1) a' w') : wpFrom P ops Q i a w := by
  unfold nextE at hb
  split at hb
  · rename_i o hop
    split at hb
    · rename_i x0 hg hop'
      split at hb
      · rename_i e0 hx
        simp only [Option.some.injEq, Prod.mk.injEq] at hb
        obtain ⟨rfl, rfl⟩ := hb
        have hv : a.eval x0 = .pointer (some ⟨r, 0, none⟩) := opnd_ok (CurR_start hE) (by simp) hx
        obtain ⟨hr, hit⟩ := hH.loc _ List.mem_cons_self
        have hgr : (getObj r).run P w = .ok (itO mr cl seen) w := by simp [getObj, Sem.run, hit]
        have hgm : (getObj mr).run P w = .ok (.map es cl) w := by simp [getObj, Sem.run, hh]
        have hbound : ∀ e ∈ es, e.born < cl := fun e he => hm.2.1 e (by simpa using he)
        -- those that are left
        let left := es.filter fun e => !seen.contains e.born
        have hold : left.filter (·.born < cl) = left := by
          rw [Array.filter_eq_self]
          intro e he
          simp only [decide_eq_true_eq]
          exact hbound e (Array.mem_filter.1 he).1
        have hnew : left.filter (·.born ≥ cl) = #[] := by
          rw [Array.filter_eq_empty_iff]
          intro e he
          simp only [ge_iff_le, decide_eq_true_eq, Nat.not_le]
          exact hbound e (Array.mem_filter.1 he).1
        have hnot : (!seen.isEmpty && !es.isEmpty && es.all (·.born ≥ cl)) = false := by
          by_cases he : es = #[]
          · subst he; simp
          · have : ∃ e, e ∈ es := by
              have h0 : 0 < es.size := by
                rcases Nat.eq_zero_or_pos es.size with h0 | h0
                · exact (he (Array.eq_empty_of_size_eq_zero h0)).elim
                · exact h0
              exact ⟨es[0], by simp⟩
            obtain ⟨e, hme⟩ := this
            have h1 : es.all (·.born ≥ cl) = false := by
              rw [Array.all_eq_false]
              obtain ⟨q, hq, rfl⟩ := Array.mem_iff_getElem.1 hme
              exact ⟨q, hq, by simp; exact hbound _ (by simp)⟩
            rw [h1]; simp
        by_cases hl : left = #[]
        · refine wpFrom_value hop (goes_ok (CurR_start hE) hg) (v := .tuple #[.bool false]) (w' := w) ?_ (kover ?_ _ _ (hE.putO hd ⟨_, rfl, VR_bool.2 rfl, trivial⟩) hH)
          · simp only [execOp, hop', hv]
            refine run_val ?_
            unfold Instr.next
            simp only [Sem.run_bind, hgr, hgm, Result.andThen_ok, hnot, Bool.false_eq_true, if_false]
            simp only [show (es.filter fun e => !seen.contains e.born) = left from rfl, hold, hnew, Array.append_empty]
            rw [hl]
            simp [choose, Sem.run, Question.forced]
          · intro e he
            by_cases hc : e.born ∈ seen.toList
            · exact hc
            · have : e ∈ left := Array.mem_filter.2 ⟨by simpa using he, by simpa using hc⟩
              rw [hl] at this; simp at this
        · have hpos : 0 < left.size := by
            rcases Nat.eq_zero_or_pos left.size with h0 | h0
            · exact (hl (Array.eq_empty_of_size_eq_zero h0)).elim
            · exact h0
          have hemp : left.isEmpty = false := by simp [Array.isEmpty]; omega
          obtain ⟨c, n', hc, hclt⟩ := run_mapNext (P := P) (w := w) left.size hpos
          have hel : left[c] ∈ left := by simp
          obtain ⟨hes, hns⟩ := Array.mem_filter.1 hel
          obtain ⟨ix, hix, hix2⟩ := Array.mem_iff_getElem.1 hes
          have hix3 : es.toList[ix]? = some left[c] := by simp [hix, hix2]
          obtain ⟨p, hp1, hp2, hp3⟩ := mapL_get hm.1 hix3
          have hdr := hH.drawn n'
          have hit' : ({ w with drawn := n' } : World).heap[r]? = some (itO mr cl seen) := hit
          refine wpFrom_value hop (goes_ok (CurR_start hE) hg) (v := .tuple #[.bool true, left[c].key, left[c].val]) (w' := setH { w with drawn := n' } r (itO mr cl (seen.push left[c].born))) ?_
            (kgo ix left[c] p hix3 hp1 (by simpa using hns) _ _ (hE.putO hd ⟨_, rfl, VR_bool.2 rfl, hp2, hp3, trivial⟩) (hdr.iterTurn _) ?_)
          · simp only [execOp, hop', hv]
            refine run_val ?_
            unfold Instr.next
            simp only [Sem.run_bind, hgr, hgm, Result.andThen_ok, hnot, Bool.false_eq_true, if_false]
            simp only [show (es.filter fun e => !seen.contains e.born) = left from rfl, hold, hnew, Array.append_empty]
            simp only [hemp, Bool.false_eq_true, if_false, Array.empty_append, Array.size_map, Sem.run_bind, hc, Result.andThen_ok]
            simp [hclt, setObj, Sem.run, hit, setH]
          · rw [setH_ne (by
              intro he
              subst he
              rw [hit] at hh; simp at hh)]
            exact hh
      · simp at hb
    · simp at hb
  · simp at hb


def entryE (ops : Array Oper) (E : Env) (i : Nat) : Option (En × Option Nat) :=
  match ops[i]? with
  | some o => (match goes ops (look E []) o, o.op with
    | true, .entry x => (match opnd (look E []) [] x with
      | some e => some (e, o.dst)
      | none => none)
    | _, _ => none)
  | none => none

theorem stepEntry {kk kv : Kd} {r mr cl ix : Nat} {es : Array MapEntry} {e : MapEntry} {p : kk.den × kv.den} {seen : Array Nat} {m : List (kk.den × kv.den)} {d : Option Nat} {i : Nat} (hE : EnvR G N a E) (hH : Holds w G T (.iter r (itO mr cl (seen.push e.born)) :: Ls)) (hh : w.heap[mr]? = some (.map es cl)) (hm : mapR G kk kv m es.toList cl)
    (hix : es.toList[ix]? = some e) (hp : m[ix]? = some p) (hb : entryE ops E i = some (.val (.pointer (some ⟨r, 0, none⟩)), d)) (hd : dstOK d N = true)
    (k : ∀ a', EnvR G N a' (putE d (.tup [⟨kk, p.1⟩, ⟨kv, p.2⟩]) E) → wpFrom P ops Q (i + 1) a' w) : wpFrom P ops Q i a w := by
  unfold entryE at hb
  split at hb
  · rename_i o hop
    split at hb
    · rename_i x0 hg hop'
      split at hb
      · rename_i e0 hx
        simp only [Option.some.injEq, Prod.mk.injEq] at hb
        obtain ⟨rfl, rfl⟩ := hb
        have hv : a.eval x0 = .pointer (some ⟨r, 0, none⟩) := opnd_ok (CurR_start hE) (by simp) hx
        obtain ⟨hr, hit⟩ := hH.loc _ List.mem_cons_self
        have hgr : (getObj r).run P w = .ok (itO mr cl (seen.push e.born)) w := by simp [getObj, Sem.run, hit]
        have hgm : (getObj mr).run P w = .ok (.map es cl) w := by simp [getObj, Sem.run, hh]
        obtain ⟨q, hq1, hq2, hq3⟩ := mapL_get hm.1 hix
        rw [hp] at hq1
        simp only [Option.some.injEq] at hq1; subst hq1
        have hfind : es.find? (·.born == e.born) = some e := by
          have hmem : e ∈ es := by
            have := List.mem_of_getElem? hix
            simpa using this
          cases hf : es.find? (·.born == e.born) with
          | none =>
            have := Array.find?_eq_none.1 hf e hmem
            simp at this
          | some e' =>
            have h1 : e'.born = e.born := by simpa using Array.find?_some hf
            have h2 : e' ∈ es.toList := by simpa using Array.mem_of_find?_eq_some hf
            rw [nodup_born hm.2.2 h2 (by simpa using hmem) h1]
        refine wpFrom_value hop (goes_ok (CurR_start hE) hg) (v := .tuple #[e.key, e.val]) (w' := w) ?_ (k _ (hE.putO hd ⟨_, rfl, hq2, hq3, trivial⟩))
        simp only [execOp, hop', hv]
        refine run_val ?_
        unfold Instr.entry
        simp [hgr, hgm, hfind]
      · simp at hb
    · simp at hb
  · simp at hb
  where
  nodup_born : ∀ {es : List MapEntry} {x y : MapEntry}, (es.map (·.born)).Nodup → x ∈ es → y ∈ es → x.born = y.born → x = y
    | [], _, _, _, h, _, _ => by simp at h
    | e :: es, x, y, hn, hx, hy, hb => by
      simp only [List.map_cons, List.nodup_cons] at hn
      rcases List.mem_cons.1 hx with hx' | hx'
      · rcases List.mem_cons.1 hy with hy' | hy'
        · rw [hx', hy']
        · exact (hn.1 (List.mem_map.2 ⟨y, hy', by rw [← hb, hx']⟩)).elim
      · rcases List.mem_cons.1 hy with hy' | hy'
        · exact (hn.1 (List.mem_map.2 ⟨x, hx', by rw [hb, hy']⟩)).elim
        · exact nodup_born hn.2 hx' hy' hb
end

/-! ### What has been gone through -/
structure Gone {kk kv : Kd} (es : List MapEntry) (m : List (kk.den × kv.den)) (seen : List Nat) (done : List (kk.den × kv.den)) : Prop where
  ex : ∃ is : List Nat, is.Nodup ∧ seen = is.map (fun i => (es[i]?.map (·.born)).getD 0) ∧ done = is.filterMap (fun i => m[i]?) ∧ ∀ i ∈ is, i < es.length

theorem Gone.nil {kk kv : Kd} {es : List MapEntry} {m : List (kk.den × kv.den)} : Gone es m [] [] := ⟨[], by simp, rfl, rfl, by simp⟩

theorem Gone.next {kk kv : Kd} {es : List MapEntry} {m done : List (kk.den × kv.den)} {seen : List Nat} (h : Gone es m seen done) {ix : Nat} {e : MapEntry} {p : kk.den × kv.den} (he : es[ix]? = some e) (hp : m[ix]? = some p) (hn : e.born ∉ seen) : Gone es m (seen ++ [e.born]) (done ++ [p]) := by
  obtain ⟨is, h1, rfl, rfl, h4⟩ := h
  refine ⟨is ++ [ix], ?_, by simp [he], by simp [List.filterMap_append, hp], ?_⟩
  · rw [List.nodup_append]
    refine ⟨h1, by simp, fun x hx y hy hxy => ?_⟩
    simp only [List.mem_singleton] at hy
    subst hy; subst hxy
    exact hn (List.mem_map.2 ⟨x, hx, by simp [he]⟩)
  · intro i hi
    rcases List.mem_append.1 hi with hi | hi
    · exact h4 i hi
    · simp only [List.mem_singleton] at hi
      subst hi
      exact (List.getElem?_eq_some_iff.1 he).1

theorem nodup_inj {α : Type} : ∀ {l : List α} {i j : Nat} {x : α}, l.Nodup → l[i]? = some x → l[j]? = some x → i = j
  | [], _, _, _, _, h, _ => by simp at h
  | y :: l, 0, 0, _, _, _, _ => rfl
  | y :: l, 0, j + 1, x, hn, h, k => by
    simp at h; subst h
    exact ((List.nodup_cons.1 hn).1 (List.mem_of_getElem? (by simpa using k))).elim
  | y :: l, i + 1, 0, x, hn, h, k => by
    simp at k; subst k
    exact ((List.nodup_cons.1 hn).1 (List.mem_of_getElem? (by simpa using h))).elim
  | y :: l, i + 1, j + 1, x, hn, h, k => by
    have := nodup_inj (i := i) (j := j) (x := x) (List.nodup_cons.1 hn).2 (by simpa using h) (by simpa using k)
    rw [this]

theorem Gone.all {kk kv : Kd} {es : List MapEntry} {m done : List (kk.den × kv.den)} {seen : List Nat} (h : Gone es m seen done) (hlen : m.length = es.length) (hb : (es.map (·.born)).Nodup) (hall : ∀ e ∈ es, e.born ∈ seen) : done.Perm m := by
  obtain ⟨is, h1, rfl, rfl, h4⟩ := h
  have hin : ∀ i, i < es.length → i ∈ is := by
    intro i hi
    obtain ⟨j, hj, hjb⟩ := List.mem_map.1 (hall es[i] (by simp))
    have hjl := h4 j hj
    have h5 : es[j].born = es[i].born := by simpa [hjl] using hjb
    have : j = i := nodup_inj hb (x := es[i].born) (by simp [hjl, h5]) (by simp [hi])
    rw [← this]; exact hj
  have hperm : is.Perm (List.range es.length) := by
    rw [List.perm_ext_iff_of_nodup h1 List.nodup_range]
    intro i
    exact ⟨fun hi => by simpa using h4 i hi, fun hi => hin i (by simpa using hi)⟩
  have : (List.range es.length).filterMap (fun i => m[i]?) = m := by
    rw [← hlen]
    exact range_get m
  have h6 := hperm.filterMap (fun i => m[i]?)
  rw [this] at h6
  exact h6
  where
  range_get {α : Type} (m : List α) : (List.range m.length).filterMap (fun i => m[i]?) = m := by
    induction m with
    | nil => rfl
    | cons x m ih =>
      rw [List.length_cons, List.range_succ_eq_map]
      simp only [List.filterMap_cons, List.getElem?_cons_zero, List.filterMap_map]
      congr 1
end Go.Proofs.Ytlfemhkabjafeaa.M
