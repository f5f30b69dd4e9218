/-
  No cell of these rows narrows 'for every input' (looked for: loops, veiled, ifaces, maps, wideKeys, modest, calm, conditions, laid).
  DERIVED. THE GIVEN ROWS OF THIS SEAT. 6 by the template 'for every input the law returns true; each argument reads behind the call as it read before'; 0 by the template 'total and deterministic' (their statements: YtefppgdfcnediaaGreatTotals.lean).
  GIVEN WITH THE SEED: the statements are not yours to turn. If you find one false, say at which input.
  Laid BY PROGRAM, IN A SANDBOX (cutbox-rows.mjs): the forced cells as the released guide's own fill.sh prints them over the translation 476d48b879b723db… (all of the seat's roots in one cut). By AI agents, Wed Nov 11 2026. No macro, syntax, notation, axiom, sorry.
-/
import Derived.Test.YtefppgdfcnediaaGreatChecked
import GoSem.Claim
import GoSem.ClaimJoined
import GoSem.ClaimMapViews
import Derived.JoinedTies
import Derived.KernelRfl
namespace Go.Proofs.YtefppgdfcnediaaGreat
/- THE CELL 'sum', in the pinned program and in every row, IS THE sha256 OF THE DUMP (.gsa) THAT YtefppgdfcnediaaGreatProg.lean LOADS. Nothing in Lean hashes anything: it is a label: what it is worth is what the hold of that sum in a sandbox is worth. -/
noncomputable def Tryz.pinned : Pinned := { name := "ytefppgdfcnediaagreat", sum := "476d48b879b723db32425ff3f3ea2dc0396eba9627960ec35720c7a6405116de", checked := Tryz.checked }
namespace Rows
def none {H : Type} : Left H := { results := [], args := [] }

/-- 'surmiselaw25.PendingNone': WHATEVER THE INPUT: true; the input reads as it did. -/
def pendingNoneSpec : ChangeSpec := { name := "pendingNone", fn := fun _ => fun
  | [d] => { results := [.lit (.bool true)], args := [d] }
  | _ => none }
def pendingNoneRow : OpenClaim := { program := "ytefppgdfcnediaagreat", sum := "476d48b879b723db32425ff3f3ea2dc0396eba9627960ec35720c7a6405116de", func := "surmise/surmiselaw25.PendingNone", spec := "pendingNone", unfollowed := true, recurses := true, plainKeys := false, apart := false }
def PendingNoneSaid : Prop := pendingNoneRow.holds Tryz.pinned (OpenSpec.ofChange pendingNoneSpec)

/-- ITS FALSE NEIGHBOUR: 'it returns false'. Refute it at one input. -/
def pendingNoneWrong : ChangeSpec := { name := "pendingNone", fn := fun _ => fun
  | [d] => { results := [.lit (.bool false)], args := [d] }
  | _ => none }
def PendingNoneWrongFalsely : Prop := pendingNoneRow.holds Tryz.pinned (OpenSpec.ofChange pendingNoneWrong)

/-- 'surmiselaw27.BaseNone': WHATEVER THE INPUT: true; the input reads as it did. -/
def baseNoneSpec : ChangeSpec := { name := "baseNone", fn := fun _ => fun
  | [d] => { results := [.lit (.bool true)], args := [d] }
  | _ => none }
def baseNoneRow : OpenClaim := { program := "ytefppgdfcnediaagreat", sum := "476d48b879b723db32425ff3f3ea2dc0396eba9627960ec35720c7a6405116de", func := "surmise/surmiselaw27.BaseNone", spec := "baseNone", unfollowed := true, recurses := true, plainKeys := false, apart := false }
def BaseNoneSaid : Prop := baseNoneRow.holds Tryz.pinned (OpenSpec.ofChange baseNoneSpec)

/-- ITS FALSE NEIGHBOUR: 'it returns false'. Refute it at one input. -/
def baseNoneWrong : ChangeSpec := { name := "baseNone", fn := fun _ => fun
  | [d] => { results := [.lit (.bool false)], args := [d] }
  | _ => none }
def BaseNoneWrongFalsely : Prop := baseNoneRow.holds Tryz.pinned (OpenSpec.ofChange baseNoneWrong)

/-- 'surmiselaw17.StoreNone': WHATEVER THE INPUT: true; the input reads as it did. -/
def storeNoneSpec : ChangeSpec := { name := "storeNone", fn := fun _ => fun
  | [d1, d2] => { results := [.lit (.bool true)], args := [d1, d2] }
  | _ => none }
def storeNoneRow : OpenClaim := { program := "ytefppgdfcnediaagreat", sum := "476d48b879b723db32425ff3f3ea2dc0396eba9627960ec35720c7a6405116de", func := "surmise/surmiselaw17.StoreNone", spec := "storeNone", unfollowed := true, recurses := true, plainKeys := false, apart := false }
def StoreNoneSaid : Prop := storeNoneRow.holds Tryz.pinned (OpenSpec.ofChange storeNoneSpec)

/-- ITS FALSE NEIGHBOUR: 'it returns false'. Refute it at one input. -/
def storeNoneWrong : ChangeSpec := { name := "storeNone", fn := fun _ => fun
  | [d1, d2] => { results := [.lit (.bool false)], args := [d1, d2] }
  | _ => none }
def StoreNoneWrongFalsely : Prop := storeNoneRow.holds Tryz.pinned (OpenSpec.ofChange storeNoneWrong)

/-- 'surmiselaw24.ServerNone': WHATEVER THE INPUT: true; the input reads as it did. -/
def serverNoneSpec : ChangeSpec := { name := "serverNone", fn := fun _ => fun
  | [d1, d2] => { results := [.lit (.bool true)], args := [d1, d2] }
  | _ => none }
def serverNoneRow : OpenClaim := { program := "ytefppgdfcnediaagreat", sum := "476d48b879b723db32425ff3f3ea2dc0396eba9627960ec35720c7a6405116de", func := "surmise/surmiselaw24.ServerNone", spec := "serverNone", unfollowed := true, recurses := true, plainKeys := false, apart := false }
def ServerNoneSaid : Prop := serverNoneRow.holds Tryz.pinned (OpenSpec.ofChange serverNoneSpec)

/-- ITS FALSE NEIGHBOUR: 'it returns false'. Refute it at one input. -/
def serverNoneWrong : ChangeSpec := { name := "serverNone", fn := fun _ => fun
  | [d1, d2] => { results := [.lit (.bool false)], args := [d1, d2] }
  | _ => none }
def ServerNoneWrongFalsely : Prop := serverNoneRow.holds Tryz.pinned (OpenSpec.ofChange serverNoneWrong)

/-- 'surmiselaw28.ClientNone': WHATEVER THE INPUT: true; the input reads as it did. -/
def clientNoneSpec : ChangeSpec := { name := "clientNone", fn := fun _ => fun
  | [d1, d2, d3] => { results := [.lit (.bool true)], args := [d1, d2, d3] }
  | _ => none }
def clientNoneRow : OpenClaim := { program := "ytefppgdfcnediaagreat", sum := "476d48b879b723db32425ff3f3ea2dc0396eba9627960ec35720c7a6405116de", func := "surmise/surmiselaw28.ClientNone", spec := "clientNone", unfollowed := true, recurses := true, plainKeys := false, apart := false }
def ClientNoneSaid : Prop := clientNoneRow.holds Tryz.pinned (OpenSpec.ofChange clientNoneSpec)

/-- ITS FALSE NEIGHBOUR: 'it returns false'. Refute it at one input. -/
def clientNoneWrong : ChangeSpec := { name := "clientNone", fn := fun _ => fun
  | [d1, d2, d3] => { results := [.lit (.bool false)], args := [d1, d2, d3] }
  | _ => none }
def ClientNoneWrongFalsely : Prop := clientNoneRow.holds Tryz.pinned (OpenSpec.ofChange clientNoneWrong)

/-- 'surmiselaw29.WorldNone': WHATEVER THE INPUT: true; the input reads as it did. -/
def worldNoneSpec : ChangeSpec := { name := "worldNone", fn := fun _ => fun
  | [d] => { results := [.lit (.bool true)], args := [d] }
  | _ => none }
def worldNoneRow : OpenClaim := { program := "ytefppgdfcnediaagreat", sum := "476d48b879b723db32425ff3f3ea2dc0396eba9627960ec35720c7a6405116de", func := "surmise/surmiselaw29.WorldNone", spec := "worldNone", inPlace := ["slices.overlaps[surmise/api.Msg]"], unfollowed := true, recurses := true, plainKeys := false, apart := false }
def WorldNoneSaid : Prop := worldNoneRow.holds Tryz.pinned (OpenSpec.ofChange worldNoneSpec)

/-- ITS FALSE NEIGHBOUR: 'it returns false'. Refute it at one input. -/
def worldNoneWrong : ChangeSpec := { name := "worldNone", fn := fun _ => fun
  | [d] => { results := [.lit (.bool false)], args := [d] }
  | _ => none }
def WorldNoneWrongFalsely : Prop := worldNoneRow.holds Tryz.pinned (OpenSpec.ofChange worldNoneWrong)

/- THE SECOND FORM. 'bulk': how many values and letters a reading holds, each counted each time it is reached (what is shared counts as often as it is met; a slice's spare places count too). A statement '..UptoSaid' is the law's where the arguments, and the package variables that the reading takes, are together of bulk at most 1048576: NARROWER than '..Said'. Prove '..Said' where nothing that the law and all that it calls make is longer than what came in: it says more and counts as full. Else prove '..UptoSaid'. A law counts once. -/
mutual
def uptoBulk {H : Type} : DataW H → Nat
  | .lit (.string bytes) => bytes.length + 1
  | .lit _ => 1
  | .nil => 1
  | .ptr d => uptoBulk d + 1
  | .slice elems spare => uptoBulkAll elems + uptoBulkAll spare + 1
  | .agg parts => uptoBulkAll parts + 1
  | .iface _ d => uptoBulk d + 1
  | .map entries => uptoBulkEntries entries + 1
  | .held _ => 1
def uptoBulkAll {H : Type} : List (DataW H) → Nat
  | [] => 0
  | d :: r => uptoBulk d + uptoBulkAll r
def uptoBulkEntries {H : Type} : List (Lit × DataW H) → Nat
  | [] => 0
  | x :: r => uptoBulkEntry x + uptoBulkEntries r
def uptoBulkEntry {H : Type} : Lit × DataW H → Nat
  | (.string bytes, d) => bytes.length + uptoBulk d + 1
  | (_, d) => uptoBulk d + 1
 end
def uptoSmall : (H : Type) → List (DataW H) → Bool := fun _ ds => decide (uptoBulkAll ds ≤ 1048576)
def OpenSpec.upto (s : _root_.Go.ChangeSpec) : _root_.Go.OpenSpec := { _root_.Go.OpenSpec.ofChange s with cond := some uptoSmall }

/-- 'surmiselaw25.PendingNone', WHERE WHAT IT READS IS OF BULK AT MOST 1048576: true; the input reads as it did. -/
def pendingNoneUptoRow : OpenClaim := { program := "ytefppgdfcnediaagreat", sum := "476d48b879b723db32425ff3f3ea2dc0396eba9627960ec35720c7a6405116de", func := "surmise/surmiselaw25.PendingNone", spec := "pendingNone", unfollowed := true, recurses := true, plainKeys := false, apart := false, narrowed := true }
def PendingNoneUptoSaid : Prop := pendingNoneUptoRow.holds Tryz.pinned (OpenSpec.upto pendingNoneSpec)

/-- 'surmiselaw27.BaseNone', WHERE WHAT IT READS IS OF BULK AT MOST 1048576: true; the input reads as it did. -/
def baseNoneUptoRow : OpenClaim := { program := "ytefppgdfcnediaagreat", sum := "476d48b879b723db32425ff3f3ea2dc0396eba9627960ec35720c7a6405116de", func := "surmise/surmiselaw27.BaseNone", spec := "baseNone", unfollowed := true, recurses := true, plainKeys := false, apart := false, narrowed := true }
def BaseNoneUptoSaid : Prop := baseNoneUptoRow.holds Tryz.pinned (OpenSpec.upto baseNoneSpec)

/-- 'surmiselaw17.StoreNone', WHERE WHAT IT READS IS OF BULK AT MOST 1048576: true; the input reads as it did. -/
def storeNoneUptoRow : OpenClaim := { program := "ytefppgdfcnediaagreat", sum := "476d48b879b723db32425ff3f3ea2dc0396eba9627960ec35720c7a6405116de", func := "surmise/surmiselaw17.StoreNone", spec := "storeNone", unfollowed := true, recurses := true, plainKeys := false, apart := false, narrowed := true }
def StoreNoneUptoSaid : Prop := storeNoneUptoRow.holds Tryz.pinned (OpenSpec.upto storeNoneSpec)

/-- 'surmiselaw24.ServerNone', WHERE WHAT IT READS IS OF BULK AT MOST 1048576: true; the input reads as it did. -/
def serverNoneUptoRow : OpenClaim := { program := "ytefppgdfcnediaagreat", sum := "476d48b879b723db32425ff3f3ea2dc0396eba9627960ec35720c7a6405116de", func := "surmise/surmiselaw24.ServerNone", spec := "serverNone", unfollowed := true, recurses := true, plainKeys := false, apart := false, narrowed := true }
def ServerNoneUptoSaid : Prop := serverNoneUptoRow.holds Tryz.pinned (OpenSpec.upto serverNoneSpec)

/-- 'surmiselaw28.ClientNone', WHERE WHAT IT READS IS OF BULK AT MOST 1048576: true; the input reads as it did. -/
def clientNoneUptoRow : OpenClaim := { program := "ytefppgdfcnediaagreat", sum := "476d48b879b723db32425ff3f3ea2dc0396eba9627960ec35720c7a6405116de", func := "surmise/surmiselaw28.ClientNone", spec := "clientNone", unfollowed := true, recurses := true, plainKeys := false, apart := false, narrowed := true }
def ClientNoneUptoSaid : Prop := clientNoneUptoRow.holds Tryz.pinned (OpenSpec.upto clientNoneSpec)

/-- 'surmiselaw29.WorldNone', WHERE WHAT IT READS IS OF BULK AT MOST 1048576: true; the input reads as it did. -/
def worldNoneUptoRow : OpenClaim := { program := "ytefppgdfcnediaagreat", sum := "476d48b879b723db32425ff3f3ea2dc0396eba9627960ec35720c7a6405116de", func := "surmise/surmiselaw29.WorldNone", spec := "worldNone", inPlace := ["slices.overlaps[surmise/api.Msg]"], unfollowed := true, recurses := true, plainKeys := false, apart := false, narrowed := true }
def WorldNoneUptoSaid : Prop := worldNoneUptoRow.holds Tryz.pinned (OpenSpec.upto worldNoneSpec)

end Rows
end Go.Proofs.YtefppgdfcnediaaGreat
