/- Own library, part 17: results that lie in memory. -/
import Derived.Test.YtlfemhkabjafeaaB16
set_option linter.unusedVariables false
set_option linter.unusedSimpArgs false
namespace Go.Proofs.Ytlfemhkabjafeaa.M

section
variable {P : Program} {w : World} {G : Gh} {T T' : Tabs} {Ls : List LS} {a : Act} {N : Nat} {E : Env}

theorem ret2c {fn : Func} {t1 t2 ty b : Nat} {k k2 : Kd} {x : k.den} {y : k2.den} {G0 : Gh} {L : List LS} (hr : fn.results = #[.cell t1 ty, .tmp t2]) (hE : EnvR G N a E) (hle : G0.le G) (hH : Holds w G T (.box b k x :: L))
    (h1 : lk E t1 = some (.val (.pointer (some ⟨b, 0, none⟩)))) (hs : sizeT P ty = some k.w) (ha : aggT P ty = some k.agg) (h2 : outE E t2 (.kv k2 y) = some (.kv k2 y)) :
    PostB P fn G0 (.tup [⟨k, x⟩, ⟨k2, y⟩]) T L .ret a w := by
  have hv : a.tmps.getD t1 Go.undef = .pointer (some ⟨b, 0, none⟩) := hE.2.2 _ _ h1
  obtain ⟨_, ce, tb, hh, hk⟩ := hH.loc _ List.mem_cons_self
  have hlen := Kr_len hk
  obtain ⟨v, hrun, hvr⟩ := run_loadAt (P := P) (w := w) (b := b) (off := 0) hs ha hh (by simp at hlen; omega) (by rw [List.drop_zero, List.take_of_length_le (by omega)]; exact hk)
  have hrun' : (loadVar ty ⟨b, 0, none⟩).run P w = .ok v w := by
    simpa [Instr.loadAt, Instr.sureAddr] using hrun
  have hv' : a.tmps[t1]?.getD Go.undef = .pointer (some ⟨b, 0, none⟩) := by rw [← Array.getD_eq_getD_getElem?]; exact hv
  refine ⟨hE.2.1, .tuple #[v, a.tmps.getD t2 Go.undef], by simp [results, hr, hv', asAddr, hrun'], G, hle, ⟨_, rfl, hvr, ?_, trivial⟩, hH.drop (fun _ _ _ => rfl)⟩
  unfold outE at h2
  split at h2
  · rename_i e he; exact coeE_ok h2 (hE.2.2 t2 e he)
  · simp at h2
end
end Go.Proofs.Ytlfemhkabjafeaa.M
