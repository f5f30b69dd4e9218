/-
  No cell of these rows narrows 'for every input' (looked for: loops, veiled, ifaces, maps, wideKeys, modest, calm, conditions, laid).
  DERIVED. THE GIVEN ROWS OF THIS SEAT. 15 by the template 'for every input the law returns true; each argument reads behind the call as it read before'; 0 by the template 'total and deterministic' (their statements: YtlfemhkabjafeaaTotals.lean).
  GIVEN WITH THE SEED: the statements are not yours to turn. If you find one false, say at which input.
  Laid BY PROGRAM, IN A SANDBOX (cutbox-rows.mjs): the forced cells as the released guide's own fill.sh prints them over the translation fd60ef761763c225… (all of the seat's roots in one cut). By AI agents, Wed Nov 11 2026. No macro, syntax, notation, axiom, sorry.
-/
import Derived.Test.YtlfemhkabjafeaaChecked
import GoSem.Claim
import GoSem.ClaimJoined
import GoSem.ClaimMapViews
import Derived.JoinedTies
import Derived.KernelRfl
namespace Go.Proofs.Ytlfemhkabjafeaa
/- THE CELL 'sum', in the pinned program and in every row, IS THE sha256 OF THE DUMP (.gsa) THAT YtlfemhkabjafeaaProg.lean LOADS. Nothing in Lean hashes anything: it is a label: what it is worth is what the hold of that sum in a sandbox is worth. -/
noncomputable def Try.pinned : Pinned := { name := "ytlfemhkabjafeaa", sum := "fd60ef761763c225a6c065f67fc72511ef7a565503bf97ced25fe8a471e5d806", checked := Try.checked }
namespace Rows
def none {H : Type} : Left H := { results := [], args := [] }

/-- 'surmiselaw12.DiskWithin': WHATEVER THE INPUT: true; the input reads as it did. -/
def diskWithinSpec : ChangeSpec := { name := "diskWithin", fn := fun _ => fun
  | [d1, d2] => { results := [.lit (.bool true)], args := [d1, d2] }
  | _ => none }
def diskWithinRow : OpenClaim := { program := "ytlfemhkabjafeaa", sum := "fd60ef761763c225a6c065f67fc72511ef7a565503bf97ced25fe8a471e5d806", func := "surmise/surmiselaw12.DiskWithin", spec := "diskWithin", unfollowed := true, recurses := true, apart := false }
def DiskWithinSaid : Prop := diskWithinRow.holds Try.pinned (OpenSpec.ofChange diskWithinSpec)

/-- ITS FALSE NEIGHBOUR: 'it returns false'. Refute it at one input. -/
def diskWithinWrong : ChangeSpec := { name := "diskWithin", fn := fun _ => fun
  | [d1, d2] => { results := [.lit (.bool false)], args := [d1, d2] }
  | _ => none }
def DiskWithinWrongFalsely : Prop := diskWithinRow.holds Try.pinned (OpenSpec.ofChange diskWithinWrong)

/-- 'surmiselaw12.DiskDoes': WHATEVER THE INPUT: true; the input reads as it did. -/
def diskDoesSpec : ChangeSpec := { name := "diskDoes", fn := fun _ => fun
  | [d1, d2, d3] => { results := [.lit (.bool true)], args := [d1, d2, d3] }
  | _ => none }
def diskDoesRow : OpenClaim := { program := "ytlfemhkabjafeaa", sum := "fd60ef761763c225a6c065f67fc72511ef7a565503bf97ced25fe8a471e5d806", func := "surmise/surmiselaw12.DiskDoes", spec := "diskDoes", unfollowed := true, recurses := true, apart := false }
def DiskDoesSaid : Prop := diskDoesRow.holds Try.pinned (OpenSpec.ofChange diskDoesSpec)

/-- ITS FALSE NEIGHBOUR: 'it returns false'. Refute it at one input. -/
def diskDoesWrong : ChangeSpec := { name := "diskDoes", fn := fun _ => fun
  | [d1, d2, d3] => { results := [.lit (.bool false)], args := [d1, d2, d3] }
  | _ => none }
def DiskDoesWrongFalsely : Prop := diskDoesRow.holds Try.pinned (OpenSpec.ofChange diskDoesWrong)

/-- 'surmiselaw12.DiskSafe': WHATEVER THE INPUT: true; the input reads as it did. -/
def diskSafeSpec : ChangeSpec := { name := "diskSafe", fn := fun _ => fun
  | [d1, d2, d3] => { results := [.lit (.bool true)], args := [d1, d2, d3] }
  | _ => none }
def diskSafeRow : OpenClaim := { program := "ytlfemhkabjafeaa", sum := "fd60ef761763c225a6c065f67fc72511ef7a565503bf97ced25fe8a471e5d806", func := "surmise/surmiselaw12.DiskSafe", spec := "diskSafe", unfollowed := true, recurses := true, apart := false }
def DiskSafeSaid : Prop := diskSafeRow.holds Try.pinned (OpenSpec.ofChange diskSafeSpec)

/-- ITS FALSE NEIGHBOUR: 'it returns false'. Refute it at one input. -/
def diskSafeWrong : ChangeSpec := { name := "diskSafe", fn := fun _ => fun
  | [d1, d2, d3] => { results := [.lit (.bool false)], args := [d1, d2, d3] }
  | _ => none }
def DiskSafeWrongFalsely : Prop := diskSafeRow.holds Try.pinned (OpenSpec.ofChange diskSafeWrong)

/-- 'surmiselaw12.DiskArmed': WHATEVER THE INPUT: true; the input reads as it did. -/
def diskArmedSpec : ChangeSpec := { name := "diskArmed", fn := fun _ => fun
  | [d1, d2] => { results := [.lit (.bool true)], args := [d1, d2] }
  | _ => none }
def diskArmedRow : OpenClaim := { program := "ytlfemhkabjafeaa", sum := "fd60ef761763c225a6c065f67fc72511ef7a565503bf97ced25fe8a471e5d806", func := "surmise/surmiselaw12.DiskArmed", spec := "diskArmed", unfollowed := true, recurses := true, apart := false }
def DiskArmedSaid : Prop := diskArmedRow.holds Try.pinned (OpenSpec.ofChange diskArmedSpec)

/-- ITS FALSE NEIGHBOUR: 'it returns false'. Refute it at one input. -/
def diskArmedWrong : ChangeSpec := { name := "diskArmed", fn := fun _ => fun
  | [d1, d2] => { results := [.lit (.bool false)], args := [d1, d2] }
  | _ => none }
def DiskArmedWrongFalsely : Prop := diskArmedRow.holds Try.pinned (OpenSpec.ofChange diskArmedWrong)

/-- 'surmiselaw12.DiskApart': WHATEVER THE INPUT: true; the input reads as it did. -/
def diskApartSpec : ChangeSpec := { name := "diskApart", fn := fun _ => fun
  | [d1, d2, d3] => { results := [.lit (.bool true)], args := [d1, d2, d3] }
  | _ => none }
def diskApartRow : OpenClaim := { program := "ytlfemhkabjafeaa", sum := "fd60ef761763c225a6c065f67fc72511ef7a565503bf97ced25fe8a471e5d806", func := "surmise/surmiselaw12.DiskApart", spec := "diskApart", unfollowed := true, recurses := true, apart := false }
def DiskApartSaid : Prop := diskApartRow.holds Try.pinned (OpenSpec.ofChange diskApartSpec)

/-- ITS FALSE NEIGHBOUR: 'it returns false'. Refute it at one input. -/
def diskApartWrong : ChangeSpec := { name := "diskApart", fn := fun _ => fun
  | [d1, d2, d3] => { results := [.lit (.bool false)], args := [d1, d2, d3] }
  | _ => none }
def DiskApartWrongFalsely : Prop := diskApartRow.holds Try.pinned (OpenSpec.ofChange diskApartWrong)

/-- 'surmiselaw12.DiskNone': WHATEVER THE INPUT: true; the input reads as it did. -/
def diskNoneSpec : ChangeSpec := { name := "diskNone", fn := fun _ => fun
  | [d1, d2] => { results := [.lit (.bool true)], args := [d1, d2] }
  | _ => none }
def diskNoneRow : OpenClaim := { program := "ytlfemhkabjafeaa", sum := "fd60ef761763c225a6c065f67fc72511ef7a565503bf97ced25fe8a471e5d806", func := "surmise/surmiselaw12.DiskNone", spec := "diskNone", unfollowed := true, recurses := true, apart := false }
def DiskNoneSaid : Prop := diskNoneRow.holds Try.pinned (OpenSpec.ofChange diskNoneSpec)

/-- ITS FALSE NEIGHBOUR: 'it returns false'. Refute it at one input. -/
def diskNoneWrong : ChangeSpec := { name := "diskNone", fn := fun _ => fun
  | [d1, d2] => { results := [.lit (.bool false)], args := [d1, d2] }
  | _ => none }
def DiskNoneWrongFalsely : Prop := diskNoneRow.holds Try.pinned (OpenSpec.ofChange diskNoneWrong)

/-- 'surmiselaw14.SnapFew': WHATEVER THE INPUT: true; the input reads as it did. -/
def snapFewSpec : ChangeSpec := { name := "snapFew", fn := fun _ => fun
  | [d] => { results := [.lit (.bool true)], args := [d] }
  | _ => none }
def snapFewRow : OpenClaim := { program := "ytlfemhkabjafeaa", sum := "fd60ef761763c225a6c065f67fc72511ef7a565503bf97ced25fe8a471e5d806", func := "surmise/surmiselaw14.SnapFew", spec := "snapFew", unfollowed := true, recurses := true, apart := false }
def SnapFewSaid : Prop := snapFewRow.holds Try.pinned (OpenSpec.ofChange snapFewSpec)

/-- ITS FALSE NEIGHBOUR: 'it returns false'. Refute it at one input. -/
def snapFewWrong : ChangeSpec := { name := "snapFew", fn := fun _ => fun
  | [d] => { results := [.lit (.bool false)], args := [d] }
  | _ => none }
def SnapFewWrongFalsely : Prop := snapFewRow.holds Try.pinned (OpenSpec.ofChange snapFewWrong)

/-- 'surmiselaw14.SnapForeign': WHATEVER THE INPUT: true; the input reads as it did. -/
def snapForeignSpec : ChangeSpec := { name := "snapForeign", fn := fun _ => fun
  | [d1, d2, d3] => { results := [.lit (.bool true)], args := [d1, d2, d3] }
  | _ => none }
def snapForeignRow : OpenClaim := { program := "ytlfemhkabjafeaa", sum := "fd60ef761763c225a6c065f67fc72511ef7a565503bf97ced25fe8a471e5d806", func := "surmise/surmiselaw14.SnapForeign", spec := "snapForeign", unfollowed := true, recurses := true, apart := false }
def SnapForeignSaid : Prop := snapForeignRow.holds Try.pinned (OpenSpec.ofChange snapForeignSpec)

/-- ITS FALSE NEIGHBOUR: 'it returns false'. Refute it at one input. -/
def snapForeignWrong : ChangeSpec := { name := "snapForeign", fn := fun _ => fun
  | [d1, d2, d3] => { results := [.lit (.bool false)], args := [d1, d2, d3] }
  | _ => none }
def SnapForeignWrongFalsely : Prop := snapForeignRow.holds Try.pinned (OpenSpec.ofChange snapForeignWrong)

/-- 'surmiselaw14.SnapNone': WHATEVER THE INPUT: true; the input reads as it did. -/
def snapNoneSpec : ChangeSpec := { name := "snapNone", fn := fun _ => fun
  | [d] => { results := [.lit (.bool true)], args := [d] }
  | _ => none }
def snapNoneRow : OpenClaim := { program := "ytlfemhkabjafeaa", sum := "fd60ef761763c225a6c065f67fc72511ef7a565503bf97ced25fe8a471e5d806", func := "surmise/surmiselaw14.SnapNone", spec := "snapNone", unfollowed := true, recurses := true, apart := false }
def SnapNoneSaid : Prop := snapNoneRow.holds Try.pinned (OpenSpec.ofChange snapNoneSpec)

/-- ITS FALSE NEIGHBOUR: 'it returns false'. Refute it at one input. -/
def snapNoneWrong : ChangeSpec := { name := "snapNone", fn := fun _ => fun
  | [d] => { results := [.lit (.bool false)], args := [d] }
  | _ => none }
def SnapNoneWrongFalsely : Prop := snapNoneRow.holds Try.pinned (OpenSpec.ofChange snapNoneWrong)

/-- 'surmiselaw14.SnapWhole': WHATEVER THE INPUT: true; the input reads as it did. -/
def snapWholeSpec : ChangeSpec := { name := "snapWhole", fn := fun _ => fun
  | [d1, d2, d3] => { results := [.lit (.bool true)], args := [d1, d2, d3] }
  | _ => none }
def snapWholeRow : OpenClaim := { program := "ytlfemhkabjafeaa", sum := "fd60ef761763c225a6c065f67fc72511ef7a565503bf97ced25fe8a471e5d806", func := "surmise/surmiselaw14.SnapWhole", spec := "snapWhole", unfollowed := true, recurses := true, apart := false }
def SnapWholeSaid : Prop := snapWholeRow.holds Try.pinned (OpenSpec.ofChange snapWholeSpec)

/-- ITS FALSE NEIGHBOUR: 'it returns false'. Refute it at one input. -/
def snapWholeWrong : ChangeSpec := { name := "snapWhole", fn := fun _ => fun
  | [d1, d2, d3] => { results := [.lit (.bool false)], args := [d1, d2, d3] }
  | _ => none }
def SnapWholeWrongFalsely : Prop := snapWholeRow.holds Try.pinned (OpenSpec.ofChange snapWholeWrong)

/-- 'surmiselaw13.WalParses': WHATEVER THE INPUT: true; the input reads as it did. -/
def walParsesSpec : ChangeSpec := { name := "walParses", fn := fun _ => fun
  | [d1, d2] => { results := [.lit (.bool true)], args := [d1, d2] }
  | _ => none }
def walParsesRow : OpenClaim := { program := "ytlfemhkabjafeaa", sum := "fd60ef761763c225a6c065f67fc72511ef7a565503bf97ced25fe8a471e5d806", func := "surmise/surmiselaw13.WalParses", spec := "walParses", unfollowed := true, recurses := true, apart := false }
def WalParsesSaid : Prop := walParsesRow.holds Try.pinned (OpenSpec.ofChange walParsesSpec)

/-- ITS FALSE NEIGHBOUR: 'it returns false'. Refute it at one input. -/
def walParsesWrong : ChangeSpec := { name := "walParses", fn := fun _ => fun
  | [d1, d2] => { results := [.lit (.bool false)], args := [d1, d2] }
  | _ => none }
def WalParsesWrongFalsely : Prop := walParsesRow.holds Try.pinned (OpenSpec.ofChange walParsesWrong)

/-- 'surmiselaw13.WalAgain': WHATEVER THE INPUT: true; the input reads as it did. -/
def walAgainSpec : ChangeSpec := { name := "walAgain", fn := fun _ => fun
  | [d1, d2, d3] => { results := [.lit (.bool true)], args := [d1, d2, d3] }
  | _ => none }
def walAgainRow : OpenClaim := { program := "ytlfemhkabjafeaa", sum := "fd60ef761763c225a6c065f67fc72511ef7a565503bf97ced25fe8a471e5d806", func := "surmise/surmiselaw13.WalAgain", spec := "walAgain", unfollowed := true, recurses := true, apart := false }
def WalAgainSaid : Prop := walAgainRow.holds Try.pinned (OpenSpec.ofChange walAgainSpec)

/-- ITS FALSE NEIGHBOUR: 'it returns false'. Refute it at one input. -/
def walAgainWrong : ChangeSpec := { name := "walAgain", fn := fun _ => fun
  | [d1, d2, d3] => { results := [.lit (.bool false)], args := [d1, d2, d3] }
  | _ => none }
def WalAgainWrongFalsely : Prop := walAgainRow.holds Try.pinned (OpenSpec.ofChange walAgainWrong)

/-- 'surmiselaw13.WalTrims': WHATEVER THE INPUT: true; the input reads as it did. -/
def walTrimsSpec : ChangeSpec := { name := "walTrims", fn := fun _ => fun
  | [d1, d2] => { results := [.lit (.bool true)], args := [d1, d2] }
  | _ => none }
def walTrimsRow : OpenClaim := { program := "ytlfemhkabjafeaa", sum := "fd60ef761763c225a6c065f67fc72511ef7a565503bf97ced25fe8a471e5d806", func := "surmise/surmiselaw13.WalTrims", spec := "walTrims", unfollowed := true, recurses := true, apart := false }
def WalTrimsSaid : Prop := walTrimsRow.holds Try.pinned (OpenSpec.ofChange walTrimsSpec)

/-- ITS FALSE NEIGHBOUR: 'it returns false'. Refute it at one input. -/
def walTrimsWrong : ChangeSpec := { name := "walTrims", fn := fun _ => fun
  | [d1, d2] => { results := [.lit (.bool false)], args := [d1, d2] }
  | _ => none }
def WalTrimsWrongFalsely : Prop := walTrimsRow.holds Try.pinned (OpenSpec.ofChange walTrimsWrong)

/-- 'surmiselaw13.WalNone': WHATEVER THE INPUT: true; the input reads as it did. -/
def walNoneSpec : ChangeSpec := { name := "walNone", fn := fun _ => fun
  | [d1, d2, d3] => { results := [.lit (.bool true)], args := [d1, d2, d3] }
  | _ => none }
def walNoneRow : OpenClaim := { program := "ytlfemhkabjafeaa", sum := "fd60ef761763c225a6c065f67fc72511ef7a565503bf97ced25fe8a471e5d806", func := "surmise/surmiselaw13.WalNone", spec := "walNone", unfollowed := true, recurses := true, apart := false }
def WalNoneSaid : Prop := walNoneRow.holds Try.pinned (OpenSpec.ofChange walNoneSpec)

/-- ITS FALSE NEIGHBOUR: 'it returns false'. Refute it at one input. -/
def walNoneWrong : ChangeSpec := { name := "walNone", fn := fun _ => fun
  | [d1, d2, d3] => { results := [.lit (.bool false)], args := [d1, d2, d3] }
  | _ => none }
def WalNoneWrongFalsely : Prop := walNoneRow.holds Try.pinned (OpenSpec.ofChange walNoneWrong)

/-- 'surmiselaw13.WalKeeps': WHATEVER THE INPUT: true; the input reads as it did. -/
def walKeepsSpec : ChangeSpec := { name := "walKeeps", fn := fun _ => fun
  | [d1, d2, d3] => { results := [.lit (.bool true)], args := [d1, d2, d3] }
  | _ => none }
def walKeepsRow : OpenClaim := { program := "ytlfemhkabjafeaa", sum := "fd60ef761763c225a6c065f67fc72511ef7a565503bf97ced25fe8a471e5d806", func := "surmise/surmiselaw13.WalKeeps", spec := "walKeeps", unfollowed := true, recurses := true, apart := false }
def WalKeepsSaid : Prop := walKeepsRow.holds Try.pinned (OpenSpec.ofChange walKeepsSpec)

/-- ITS FALSE NEIGHBOUR: 'it returns false'. Refute it at one input. -/
def walKeepsWrong : ChangeSpec := { name := "walKeeps", fn := fun _ => fun
  | [d1, d2, d3] => { results := [.lit (.bool false)], args := [d1, d2, d3] }
  | _ => none }
def WalKeepsWrongFalsely : Prop := walKeepsRow.holds Try.pinned (OpenSpec.ofChange walKeepsWrong)

/- THE SECOND FORM. 'bulk': how many values and letters a reading holds, each counted each time it is reached (what is shared counts as often as it is met; a slice's spare places count too). A statement '..UptoSaid' is the law's where the arguments, and the package variables that the reading takes, are together of bulk at most 1048576: NARROWER than '..Said'. Prove '..Said' where nothing that the law and all that it calls make is longer than what came in: it says more and counts as full. Else prove '..UptoSaid'. A law counts once. -/
mutual
def uptoBulk {H : Type} : DataW H → Nat
  | .lit (.string bytes) => bytes.length + 1
  | .lit _ => 1
  | .nil => 1
  | .ptr d => uptoBulk d + 1
  | .slice elems spare => uptoBulkAll elems + uptoBulkAll spare + 1
  | .agg parts => uptoBulkAll parts + 1
  | .iface _ d => uptoBulk d + 1
  | .map entries => uptoBulkEntries entries + 1
  | .held _ => 1
def uptoBulkAll {H : Type} : List (DataW H) → Nat
  | [] => 0
  | d :: r => uptoBulk d + uptoBulkAll r
def uptoBulkEntries {H : Type} : List (Lit × DataW H) → Nat
  | [] => 0
  | x :: r => uptoBulkEntry x + uptoBulkEntries r
def uptoBulkEntry {H : Type} : Lit × DataW H → Nat
  | (.string bytes, d) => bytes.length + uptoBulk d + 1
  | (_, d) => uptoBulk d + 1
 end
def uptoSmall : (H : Type) → List (DataW H) → Bool := fun _ ds => decide (uptoBulkAll ds ≤ 1048576)
def OpenSpec.upto (s : _root_.Go.ChangeSpec) : _root_.Go.OpenSpec := { _root_.Go.OpenSpec.ofChange s with cond := some uptoSmall }

/-- 'surmiselaw12.DiskWithin', WHERE WHAT IT READS IS OF BULK AT MOST 1048576: true; the input reads as it did. -/
def diskWithinUptoRow : OpenClaim := { program := "ytlfemhkabjafeaa", sum := "fd60ef761763c225a6c065f67fc72511ef7a565503bf97ced25fe8a471e5d806", func := "surmise/surmiselaw12.DiskWithin", spec := "diskWithin", unfollowed := true, recurses := true, apart := false, narrowed := true }
def DiskWithinUptoSaid : Prop := diskWithinUptoRow.holds Try.pinned (OpenSpec.upto diskWithinSpec)

/-- 'surmiselaw12.DiskDoes', WHERE WHAT IT READS IS OF BULK AT MOST 1048576: true; the input reads as it did. -/
def diskDoesUptoRow : OpenClaim := { program := "ytlfemhkabjafeaa", sum := "fd60ef761763c225a6c065f67fc72511ef7a565503bf97ced25fe8a471e5d806", func := "surmise/surmiselaw12.DiskDoes", spec := "diskDoes", unfollowed := true, recurses := true, apart := false, narrowed := true }
def DiskDoesUptoSaid : Prop := diskDoesUptoRow.holds Try.pinned (OpenSpec.upto diskDoesSpec)

/-- 'surmiselaw12.DiskSafe', WHERE WHAT IT READS IS OF BULK AT MOST 1048576: true; the input reads as it did. -/
def diskSafeUptoRow : OpenClaim := { program := "ytlfemhkabjafeaa", sum := "fd60ef761763c225a6c065f67fc72511ef7a565503bf97ced25fe8a471e5d806", func := "surmise/surmiselaw12.DiskSafe", spec := "diskSafe", unfollowed := true, recurses := true, apart := false, narrowed := true }
def DiskSafeUptoSaid : Prop := diskSafeUptoRow.holds Try.pinned (OpenSpec.upto diskSafeSpec)

/-- 'surmiselaw12.DiskArmed', WHERE WHAT IT READS IS OF BULK AT MOST 1048576: true; the input reads as it did. -/
def diskArmedUptoRow : OpenClaim := { program := "ytlfemhkabjafeaa", sum := "fd60ef761763c225a6c065f67fc72511ef7a565503bf97ced25fe8a471e5d806", func := "surmise/surmiselaw12.DiskArmed", spec := "diskArmed", unfollowed := true, recurses := true, apart := false, narrowed := true }
def DiskArmedUptoSaid : Prop := diskArmedUptoRow.holds Try.pinned (OpenSpec.upto diskArmedSpec)

/-- 'surmiselaw12.DiskApart', WHERE WHAT IT READS IS OF BULK AT MOST 1048576: true; the input reads as it did. -/
def diskApartUptoRow : OpenClaim := { program := "ytlfemhkabjafeaa", sum := "fd60ef761763c225a6c065f67fc72511ef7a565503bf97ced25fe8a471e5d806", func := "surmise/surmiselaw12.DiskApart", spec := "diskApart", unfollowed := true, recurses := true, apart := false, narrowed := true }
def DiskApartUptoSaid : Prop := diskApartUptoRow.holds Try.pinned (OpenSpec.upto diskApartSpec)

/-- 'surmiselaw12.DiskNone', WHERE WHAT IT READS IS OF BULK AT MOST 1048576: true; the input reads as it did. -/
def diskNoneUptoRow : OpenClaim := { program := "ytlfemhkabjafeaa", sum := "fd60ef761763c225a6c065f67fc72511ef7a565503bf97ced25fe8a471e5d806", func := "surmise/surmiselaw12.DiskNone", spec := "diskNone", unfollowed := true, recurses := true, apart := false, narrowed := true }
def DiskNoneUptoSaid : Prop := diskNoneUptoRow.holds Try.pinned (OpenSpec.upto diskNoneSpec)

/-- 'surmiselaw14.SnapFew', WHERE WHAT IT READS IS OF BULK AT MOST 1048576: true; the input reads as it did. -/
def snapFewUptoRow : OpenClaim := { program := "ytlfemhkabjafeaa", sum := "fd60ef761763c225a6c065f67fc72511ef7a565503bf97ced25fe8a471e5d806", func := "surmise/surmiselaw14.SnapFew", spec := "snapFew", unfollowed := true, recurses := true, apart := false, narrowed := true }
def SnapFewUptoSaid : Prop := snapFewUptoRow.holds Try.pinned (OpenSpec.upto snapFewSpec)

/-- 'surmiselaw14.SnapForeign', WHERE WHAT IT READS IS OF BULK AT MOST 1048576: true; the input reads as it did. -/
def snapForeignUptoRow : OpenClaim := { program := "ytlfemhkabjafeaa", sum := "fd60ef761763c225a6c065f67fc72511ef7a565503bf97ced25fe8a471e5d806", func := "surmise/surmiselaw14.SnapForeign", spec := "snapForeign", unfollowed := true, recurses := true, apart := false, narrowed := true }
def SnapForeignUptoSaid : Prop := snapForeignUptoRow.holds Try.pinned (OpenSpec.upto snapForeignSpec)

/-- 'surmiselaw14.SnapNone', WHERE WHAT IT READS IS OF BULK AT MOST 1048576: true; the input reads as it did. -/
def snapNoneUptoRow : OpenClaim := { program := "ytlfemhkabjafeaa", sum := "fd60ef761763c225a6c065f67fc72511ef7a565503bf97ced25fe8a471e5d806", func := "surmise/surmiselaw14.SnapNone", spec := "snapNone", unfollowed := true, recurses := true, apart := false, narrowed := true }
def SnapNoneUptoSaid : Prop := snapNoneUptoRow.holds Try.pinned (OpenSpec.upto snapNoneSpec)

/-- 'surmiselaw14.SnapWhole', WHERE WHAT IT READS IS OF BULK AT MOST 1048576: true; the input reads as it did. -/
def snapWholeUptoRow : OpenClaim := { program := "ytlfemhkabjafeaa", sum := "fd60ef761763c225a6c065f67fc72511ef7a565503bf97ced25fe8a471e5d806", func := "surmise/surmiselaw14.SnapWhole", spec := "snapWhole", unfollowed := true, recurses := true, apart := false, narrowed := true }
def SnapWholeUptoSaid : Prop := snapWholeUptoRow.holds Try.pinned (OpenSpec.upto snapWholeSpec)

/-- 'surmiselaw13.WalParses', WHERE WHAT IT READS IS OF BULK AT MOST 1048576: true; the input reads as it did. -/
def walParsesUptoRow : OpenClaim := { program := "ytlfemhkabjafeaa", sum := "fd60ef761763c225a6c065f67fc72511ef7a565503bf97ced25fe8a471e5d806", func := "surmise/surmiselaw13.WalParses", spec := "walParses", unfollowed := true, recurses := true, apart := false, narrowed := true }
def WalParsesUptoSaid : Prop := walParsesUptoRow.holds Try.pinned (OpenSpec.upto walParsesSpec)

/-- 'surmiselaw13.WalAgain', WHERE WHAT IT READS IS OF BULK AT MOST 1048576: true; the input reads as it did. -/
def walAgainUptoRow : OpenClaim := { program := "ytlfemhkabjafeaa", sum := "fd60ef761763c225a6c065f67fc72511ef7a565503bf97ced25fe8a471e5d806", func := "surmise/surmiselaw13.WalAgain", spec := "walAgain", unfollowed := true, recurses := true, apart := false, narrowed := true }
def WalAgainUptoSaid : Prop := walAgainUptoRow.holds Try.pinned (OpenSpec.upto walAgainSpec)

/-- 'surmiselaw13.WalTrims', WHERE WHAT IT READS IS OF BULK AT MOST 1048576: true; the input reads as it did. -/
def walTrimsUptoRow : OpenClaim := { program := "ytlfemhkabjafeaa", sum := "fd60ef761763c225a6c065f67fc72511ef7a565503bf97ced25fe8a471e5d806", func := "surmise/surmiselaw13.WalTrims", spec := "walTrims", unfollowed := true, recurses := true, apart := false, narrowed := true }
def WalTrimsUptoSaid : Prop := walTrimsUptoRow.holds Try.pinned (OpenSpec.upto walTrimsSpec)

/-- 'surmiselaw13.WalNone', WHERE WHAT IT READS IS OF BULK AT MOST 1048576: true; the input reads as it did. -/
def walNoneUptoRow : OpenClaim := { program := "ytlfemhkabjafeaa", sum := "fd60ef761763c225a6c065f67fc72511ef7a565503bf97ced25fe8a471e5d806", func := "surmise/surmiselaw13.WalNone", spec := "walNone", unfollowed := true, recurses := true, apart := false, narrowed := true }
def WalNoneUptoSaid : Prop := walNoneUptoRow.holds Try.pinned (OpenSpec.upto walNoneSpec)

/-- 'surmiselaw13.WalKeeps', WHERE WHAT IT READS IS OF BULK AT MOST 1048576: true; the input reads as it did. -/
def walKeepsUptoRow : OpenClaim := { program := "ytlfemhkabjafeaa", sum := "fd60ef761763c225a6c065f67fc72511ef7a565503bf97ced25fe8a471e5d806", func := "surmise/surmiselaw13.WalKeeps", spec := "walKeeps", unfollowed := true, recurses := true, apart := false, narrowed := true }
def WalKeepsUptoSaid : Prop := walKeepsUptoRow.holds Try.pinned (OpenSpec.upto walKeepsSpec)

end Rows
end Go.Proofs.Ytlfemhkabjafeaa
