/-
  No cell of these rows narrows 'for every input' (looked for: loops, veiled, ifaces, maps, wideKeys, modest, calm, conditions, laid).
  DERIVED. THE GIVEN ROWS OF THIS SEAT. 5 by the template 'for every input the law returns true; each argument reads behind the call as it read before'; 0 by the template 'total and deterministic' (their statements: YtbnmhjobnepajaaGreatTotals.lean).
  GIVEN WITH THE SEED: the statements are not yours to turn. If you find one false, say at which input.
  Laid BY PROGRAM, IN A SANDBOX (cutbox-rows.mjs): the forced cells as the released guide's own fill.sh prints them over the translation 6e00abdc0be895cc… (all of the seat's roots in one cut). By AI agents, Wed Nov 11 2026. No macro, syntax, notation, axiom, sorry.
-/
import Derived.Test.YtbnmhjobnepajaaGreatChecked
import GoSem.Claim
import GoSem.ClaimJoined
import GoSem.ClaimMapViews
import Derived.JoinedTies
import Derived.KernelRfl
namespace Go.Proofs.YtbnmhjobnepajaaGreat
/- THE CELL 'sum', in the pinned program and in every row, IS THE sha256 OF THE DUMP (.gsa) THAT YtbnmhjobnepajaaGreatProg.lean LOADS. Nothing in Lean hashes anything: it is a label: what it is worth is what the hold of that sum in a sandbox is worth. -/
noncomputable def Tryz.pinned : Pinned := { name := "ytbnmhjobnepajaagreat", sum := "6e00abdc0be895ccce8ca67df627a21af6abf7bce687a295b3fd0c01cb7a7b3f", checked := Tryz.checked }
namespace Rows
def none {H : Type} : Left H := { results := [], args := [] }

/-- 'surmiselaw25.PendingForeign': WHATEVER THE INPUT: true; the input reads as it did. -/
def pendingForeignSpec : ChangeSpec := { name := "pendingForeign", fn := fun _ => fun
  | [d1, d2] => { results := [.lit (.bool true)], args := [d1, d2] }
  | _ => none }
def pendingForeignRow : OpenClaim := { program := "ytbnmhjobnepajaagreat", sum := "6e00abdc0be895ccce8ca67df627a21af6abf7bce687a295b3fd0c01cb7a7b3f", func := "surmise/surmiselaw25.PendingForeign", spec := "pendingForeign", unfollowed := true, recurses := true, apart := false }
def PendingForeignSaid : Prop := pendingForeignRow.holds Tryz.pinned (OpenSpec.ofChange pendingForeignSpec)

/-- ITS FALSE NEIGHBOUR: 'it returns false'. Refute it at one input. -/
def pendingForeignWrong : ChangeSpec := { name := "pendingForeign", fn := fun _ => fun
  | [d1, d2] => { results := [.lit (.bool false)], args := [d1, d2] }
  | _ => none }
def PendingForeignWrongFalsely : Prop := pendingForeignRow.holds Tryz.pinned (OpenSpec.ofChange pendingForeignWrong)

/-- 'surmiselaw25.PendingDoes': WHATEVER THE INPUT: true; the input reads as it did. -/
def pendingDoesSpec : ChangeSpec := { name := "pendingDoes", fn := fun _ => fun
  | [d1, d2] => { results := [.lit (.bool true)], args := [d1, d2] }
  | _ => none }
def pendingDoesRow : OpenClaim := { program := "ytbnmhjobnepajaagreat", sum := "6e00abdc0be895ccce8ca67df627a21af6abf7bce687a295b3fd0c01cb7a7b3f", func := "surmise/surmiselaw25.PendingDoes", spec := "pendingDoes", unfollowed := true, recurses := true, apart := false }
def PendingDoesSaid : Prop := pendingDoesRow.holds Tryz.pinned (OpenSpec.ofChange pendingDoesSpec)

/-- ITS FALSE NEIGHBOUR: 'it returns false'. Refute it at one input. -/
def pendingDoesWrong : ChangeSpec := { name := "pendingDoes", fn := fun _ => fun
  | [d1, d2] => { results := [.lit (.bool false)], args := [d1, d2] }
  | _ => none }
def PendingDoesWrongFalsely : Prop := pendingDoesRow.holds Tryz.pinned (OpenSpec.ofChange pendingDoesWrong)

/-- 'surmiselaw25.PendingOnce': WHATEVER THE INPUT: true; the input reads as it did. -/
def pendingOnceSpec : ChangeSpec := { name := "pendingOnce", fn := fun _ => fun
  | [d] => { results := [.lit (.bool true)], args := [d] }
  | _ => none }
def pendingOnceRow : OpenClaim := { program := "ytbnmhjobnepajaagreat", sum := "6e00abdc0be895ccce8ca67df627a21af6abf7bce687a295b3fd0c01cb7a7b3f", func := "surmise/surmiselaw25.PendingOnce", spec := "pendingOnce", unfollowed := true, recurses := true, apart := false }
def PendingOnceSaid : Prop := pendingOnceRow.holds Tryz.pinned (OpenSpec.ofChange pendingOnceSpec)

/-- ITS FALSE NEIGHBOUR: 'it returns false'. Refute it at one input. -/
def pendingOnceWrong : ChangeSpec := { name := "pendingOnce", fn := fun _ => fun
  | [d] => { results := [.lit (.bool false)], args := [d] }
  | _ => none }
def PendingOnceWrongFalsely : Prop := pendingOnceRow.holds Tryz.pinned (OpenSpec.ofChange pendingOnceWrong)

/-- 'surmiselaw25.PendingFull': WHATEVER THE INPUT: true; the input reads as it did. -/
def pendingFullSpec : ChangeSpec := { name := "pendingFull", fn := fun _ => fun
  | [d1, d2] => { results := [.lit (.bool true)], args := [d1, d2] }
  | _ => none }
def pendingFullRow : OpenClaim := { program := "ytbnmhjobnepajaagreat", sum := "6e00abdc0be895ccce8ca67df627a21af6abf7bce687a295b3fd0c01cb7a7b3f", func := "surmise/surmiselaw25.PendingFull", spec := "pendingFull", unfollowed := true, recurses := true, apart := false }
def PendingFullSaid : Prop := pendingFullRow.holds Tryz.pinned (OpenSpec.ofChange pendingFullSpec)

/-- ITS FALSE NEIGHBOUR: 'it returns false'. Refute it at one input. -/
def pendingFullWrong : ChangeSpec := { name := "pendingFull", fn := fun _ => fun
  | [d1, d2] => { results := [.lit (.bool false)], args := [d1, d2] }
  | _ => none }
def PendingFullWrongFalsely : Prop := pendingFullRow.holds Tryz.pinned (OpenSpec.ofChange pendingFullWrong)

/-- 'surmiselaw25.PendingKeeps': WHATEVER THE INPUT: true; the input reads as it did. -/
def pendingKeepsSpec : ChangeSpec := { name := "pendingKeeps", fn := fun _ => fun
  | [d1, d2, d3] => { results := [.lit (.bool true)], args := [d1, d2, d3] }
  | _ => none }
def pendingKeepsRow : OpenClaim := { program := "ytbnmhjobnepajaagreat", sum := "6e00abdc0be895ccce8ca67df627a21af6abf7bce687a295b3fd0c01cb7a7b3f", func := "surmise/surmiselaw25.PendingKeeps", spec := "pendingKeeps", unfollowed := true, recurses := true, apart := false }
def PendingKeepsSaid : Prop := pendingKeepsRow.holds Tryz.pinned (OpenSpec.ofChange pendingKeepsSpec)

/-- ITS FALSE NEIGHBOUR: 'it returns false'. Refute it at one input. -/
def pendingKeepsWrong : ChangeSpec := { name := "pendingKeeps", fn := fun _ => fun
  | [d1, d2, d3] => { results := [.lit (.bool false)], args := [d1, d2, d3] }
  | _ => none }
def PendingKeepsWrongFalsely : Prop := pendingKeepsRow.holds Tryz.pinned (OpenSpec.ofChange pendingKeepsWrong)

/- THE SECOND FORM. 'bulk': how many values and letters a reading holds, each counted each time it is reached (what is shared counts as often as it is met; a slice's spare places count too). A statement '..UptoSaid' is the law's where the arguments, and the package variables that the reading takes, are together of bulk at most 1048576: NARROWER than '..Said'. Prove '..Said' where nothing that the law and all that it calls make is longer than what came in: it says more and counts as full. Else prove '..UptoSaid'. A law counts once. -/
mutual
def uptoBulk {H : Type} : DataW H → Nat
  | .lit (.string bytes) => bytes.length + 1
  | .lit _ => 1
  | .nil => 1
  | .ptr d => uptoBulk d + 1
  | .slice elems spare => uptoBulkAll elems + uptoBulkAll spare + 1
  | .agg parts => uptoBulkAll parts + 1
  | .iface _ d => uptoBulk d + 1
  | .map entries => uptoBulkEntries entries + 1
  | .held _ => 1
def uptoBulkAll {H : Type} : List (DataW H) → Nat
  | [] => 0
  | d :: r => uptoBulk d + uptoBulkAll r
def uptoBulkEntries {H : Type} : List (Lit × DataW H) → Nat
  | [] => 0
  | x :: r => uptoBulkEntry x + uptoBulkEntries r
def uptoBulkEntry {H : Type} : Lit × DataW H → Nat
  | (.string bytes, d) => bytes.length + uptoBulk d + 1
  | (_, d) => uptoBulk d + 1
 end
def uptoSmall : (H : Type) → List (DataW H) → Bool := fun _ ds => decide (uptoBulkAll ds ≤ 1048576)
def OpenSpec.upto (s : _root_.Go.ChangeSpec) : _root_.Go.OpenSpec := { _root_.Go.OpenSpec.ofChange s with cond := some uptoSmall }

/-- 'surmiselaw25.PendingForeign', WHERE WHAT IT READS IS OF BULK AT MOST 1048576: true; the input reads as it did. -/
def pendingForeignUptoRow : OpenClaim := { program := "ytbnmhjobnepajaagreat", sum := "6e00abdc0be895ccce8ca67df627a21af6abf7bce687a295b3fd0c01cb7a7b3f", func := "surmise/surmiselaw25.PendingForeign", spec := "pendingForeign", unfollowed := true, recurses := true, apart := false, narrowed := true }
def PendingForeignUptoSaid : Prop := pendingForeignUptoRow.holds Tryz.pinned (OpenSpec.upto pendingForeignSpec)

/-- 'surmiselaw25.PendingDoes', WHERE WHAT IT READS IS OF BULK AT MOST 1048576: true; the input reads as it did. -/
def pendingDoesUptoRow : OpenClaim := { program := "ytbnmhjobnepajaagreat", sum := "6e00abdc0be895ccce8ca67df627a21af6abf7bce687a295b3fd0c01cb7a7b3f", func := "surmise/surmiselaw25.PendingDoes", spec := "pendingDoes", unfollowed := true, recurses := true, apart := false, narrowed := true }
def PendingDoesUptoSaid : Prop := pendingDoesUptoRow.holds Tryz.pinned (OpenSpec.upto pendingDoesSpec)

/-- 'surmiselaw25.PendingOnce', WHERE WHAT IT READS IS OF BULK AT MOST 1048576: true; the input reads as it did. -/
def pendingOnceUptoRow : OpenClaim := { program := "ytbnmhjobnepajaagreat", sum := "6e00abdc0be895ccce8ca67df627a21af6abf7bce687a295b3fd0c01cb7a7b3f", func := "surmise/surmiselaw25.PendingOnce", spec := "pendingOnce", unfollowed := true, recurses := true, apart := false, narrowed := true }
def PendingOnceUptoSaid : Prop := pendingOnceUptoRow.holds Tryz.pinned (OpenSpec.upto pendingOnceSpec)

/-- 'surmiselaw25.PendingFull', WHERE WHAT IT READS IS OF BULK AT MOST 1048576: true; the input reads as it did. -/
def pendingFullUptoRow : OpenClaim := { program := "ytbnmhjobnepajaagreat", sum := "6e00abdc0be895ccce8ca67df627a21af6abf7bce687a295b3fd0c01cb7a7b3f", func := "surmise/surmiselaw25.PendingFull", spec := "pendingFull", unfollowed := true, recurses := true, apart := false, narrowed := true }
def PendingFullUptoSaid : Prop := pendingFullUptoRow.holds Tryz.pinned (OpenSpec.upto pendingFullSpec)

/-- 'surmiselaw25.PendingKeeps', WHERE WHAT IT READS IS OF BULK AT MOST 1048576: true; the input reads as it did. -/
def pendingKeepsUptoRow : OpenClaim := { program := "ytbnmhjobnepajaagreat", sum := "6e00abdc0be895ccce8ca67df627a21af6abf7bce687a295b3fd0c01cb7a7b3f", func := "surmise/surmiselaw25.PendingKeeps", spec := "pendingKeeps", unfollowed := true, recurses := true, apart := false, narrowed := true }
def PendingKeepsUptoSaid : Prop := pendingKeepsUptoRow.holds Tryz.pinned (OpenSpec.upto pendingKeepsSpec)

end Rows
end Go.Proofs.YtbnmhjobnepajaaGreat
