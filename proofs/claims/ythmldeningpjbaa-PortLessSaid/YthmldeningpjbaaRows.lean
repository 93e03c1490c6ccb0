/-
  No cell of these rows narrows 'for every input' (looked for: loops, veiled, ifaces, maps, wideKeys, modest, calm, conditions, laid).
  DERIVED. THE GIVEN ROWS OF THIS SEAT. 9 by the template 'for every input the law returns true; each argument reads behind the call as it read before'; 0 by the template 'total and deterministic' (their statements: YthmldeningpjbaaTotals.lean).
  GIVEN WITH THE SEED: the statements are not yours to turn. If you find one false, say at which input.
  Laid BY PROGRAM, IN A SANDBOX (cutbox-rows.mjs): the forced cells as the released guide's own fill.sh prints them over the translation f9e3ef2f885a5de7… (all of the seat's roots in one cut). By AI agents, Wed Nov 11 2026. No macro, syntax, notation, axiom, sorry.
-/
import Derived.Test.YthmldeningpjbaaChecked
import GoSem.Claim
import GoSem.ClaimJoined
import GoSem.ClaimMapViews
import Derived.JoinedTies
import Derived.KernelRfl
namespace Go.Proofs.Ythmldeningpjbaa
/- THE CELL 'sum', in the pinned program and in every row, IS THE sha256 OF THE DUMP (.gsa) THAT YthmldeningpjbaaProg.lean LOADS. Nothing in Lean hashes anything: it is a label: what it is worth is what the hold of that sum in a sandbox is worth. -/
noncomputable def Try.pinned : Pinned := { name := "ythmldeningpjbaa", sum := "f9e3ef2f885a5de7cde036a1263871bf39471979aeb11e04900664dc7f36d501", checked := Try.checked }
namespace Rows
def none {H : Type} : Left H := { results := [], args := [] }

/-- 'polynyalaw09.PortOpen': WHATEVER THE INPUT: true; the input reads as it did. -/
def portOpenSpec : ChangeSpec := { name := "portOpen", fn := fun _ => fun
  | [d1, d2, d3, d4] => { results := [.lit (.bool true)], args := [d1, d2, d3, d4] }
  | _ => none }
def portOpenRow : OpenClaim := { program := "ythmldeningpjbaa", sum := "f9e3ef2f885a5de7cde036a1263871bf39471979aeb11e04900664dc7f36d501", func := "polynya/polynyalaw09.PortOpen", spec := "portOpen", unfollowed := true, recurses := true, plainKeys := false, apart := false }
def PortOpenSaid : Prop := portOpenRow.holds Try.pinned (OpenSpec.ofChange portOpenSpec)

/-- ITS FALSE NEIGHBOUR: 'it returns false'. Refute it at one input. -/
def portOpenWrong : ChangeSpec := { name := "portOpen", fn := fun _ => fun
  | [d1, d2, d3, d4] => { results := [.lit (.bool false)], args := [d1, d2, d3, d4] }
  | _ => none }
def PortOpenWrongFalsely : Prop := portOpenRow.holds Try.pinned (OpenSpec.ofChange portOpenWrong)

/-- 'polynyalaw09.PortJoins': WHATEVER THE INPUT: true; the input reads as it did. -/
def portJoinsSpec : ChangeSpec := { name := "portJoins", fn := fun _ => fun
  | [d1, d2] => { results := [.lit (.bool true)], args := [d1, d2] }
  | _ => none }
def portJoinsRow : OpenClaim := { program := "ythmldeningpjbaa", sum := "f9e3ef2f885a5de7cde036a1263871bf39471979aeb11e04900664dc7f36d501", func := "polynya/polynyalaw09.PortJoins", spec := "portJoins", unfollowed := true, recurses := true, plainKeys := false, apart := false }
def PortJoinsSaid : Prop := portJoinsRow.holds Try.pinned (OpenSpec.ofChange portJoinsSpec)

/-- ITS FALSE NEIGHBOUR: 'it returns false'. Refute it at one input. -/
def portJoinsWrong : ChangeSpec := { name := "portJoins", fn := fun _ => fun
  | [d1, d2] => { results := [.lit (.bool false)], args := [d1, d2] }
  | _ => none }
def PortJoinsWrongFalsely : Prop := portJoinsRow.holds Try.pinned (OpenSpec.ofChange portJoinsWrong)

/-- 'polynyalaw09.PortFolds': WHATEVER THE INPUT: true; the input reads as it did. -/
def portFoldsSpec : ChangeSpec := { name := "portFolds", fn := fun _ => fun
  | [d1, d2, d3] => { results := [.lit (.bool true)], args := [d1, d2, d3] }
  | _ => none }
def portFoldsRow : OpenClaim := { program := "ythmldeningpjbaa", sum := "f9e3ef2f885a5de7cde036a1263871bf39471979aeb11e04900664dc7f36d501", func := "polynya/polynyalaw09.PortFolds", spec := "portFolds", unfollowed := true, recurses := true, plainKeys := false, apart := false }
def PortFoldsSaid : Prop := portFoldsRow.holds Try.pinned (OpenSpec.ofChange portFoldsSpec)

/-- ITS FALSE NEIGHBOUR: 'it returns false'. Refute it at one input. -/
def portFoldsWrong : ChangeSpec := { name := "portFolds", fn := fun _ => fun
  | [d1, d2, d3] => { results := [.lit (.bool false)], args := [d1, d2, d3] }
  | _ => none }
def PortFoldsWrongFalsely : Prop := portFoldsRow.holds Try.pinned (OpenSpec.ofChange portFoldsWrong)

/-- 'polynyalaw09.PortForever': WHATEVER THE INPUT: true; the input reads as it did. -/
def portForeverSpec : ChangeSpec := { name := "portForever", fn := fun _ => fun
  | [d1, d2, d3] => { results := [.lit (.bool true)], args := [d1, d2, d3] }
  | _ => none }
def portForeverRow : OpenClaim := { program := "ythmldeningpjbaa", sum := "f9e3ef2f885a5de7cde036a1263871bf39471979aeb11e04900664dc7f36d501", func := "polynya/polynyalaw09.PortForever", spec := "portForever", unfollowed := true, recurses := true, plainKeys := false, apart := false }
def PortForeverSaid : Prop := portForeverRow.holds Try.pinned (OpenSpec.ofChange portForeverSpec)

/-- ITS FALSE NEIGHBOUR: 'it returns false'. Refute it at one input. -/
def portForeverWrong : ChangeSpec := { name := "portForever", fn := fun _ => fun
  | [d1, d2, d3] => { results := [.lit (.bool false)], args := [d1, d2, d3] }
  | _ => none }
def PortForeverWrongFalsely : Prop := portForeverRow.holds Try.pinned (OpenSpec.ofChange portForeverWrong)

/-- 'polynyalaw09.PortMaps': WHATEVER THE INPUT: true; the input reads as it did. -/
def portMapsSpec : ChangeSpec := { name := "portMaps", fn := fun _ => fun
  | [d1, d2, d3, d4, d5, d6] => { results := [.lit (.bool true)], args := [d1, d2, d3, d4, d5, d6] }
  | _ => none }
def portMapsRow : OpenClaim := { program := "ythmldeningpjbaa", sum := "f9e3ef2f885a5de7cde036a1263871bf39471979aeb11e04900664dc7f36d501", func := "polynya/polynyalaw09.PortMaps", spec := "portMaps", unfollowed := true, recurses := true, plainKeys := false, apart := false }
def PortMapsSaid : Prop := portMapsRow.holds Try.pinned (OpenSpec.ofChange portMapsSpec)

/-- ITS FALSE NEIGHBOUR: 'it returns false'. Refute it at one input. -/
def portMapsWrong : ChangeSpec := { name := "portMaps", fn := fun _ => fun
  | [d1, d2, d3, d4, d5, d6] => { results := [.lit (.bool false)], args := [d1, d2, d3, d4, d5, d6] }
  | _ => none }
def PortMapsWrongFalsely : Prop := portMapsRow.holds Try.pinned (OpenSpec.ofChange portMapsWrong)

/-- 'polynyalaw09.PortBest': WHATEVER THE INPUT: true; the input reads as it did. -/
def portBestSpec : ChangeSpec := { name := "portBest", fn := fun _ => fun
  | [d1, d2, d3] => { results := [.lit (.bool true)], args := [d1, d2, d3] }
  | _ => none }
def portBestRow : OpenClaim := { program := "ythmldeningpjbaa", sum := "f9e3ef2f885a5de7cde036a1263871bf39471979aeb11e04900664dc7f36d501", func := "polynya/polynyalaw09.PortBest", spec := "portBest", unfollowed := true, recurses := true, plainKeys := false, apart := false }
def PortBestSaid : Prop := portBestRow.holds Try.pinned (OpenSpec.ofChange portBestSpec)

/-- ITS FALSE NEIGHBOUR: 'it returns false'. Refute it at one input. -/
def portBestWrong : ChangeSpec := { name := "portBest", fn := fun _ => fun
  | [d1, d2, d3] => { results := [.lit (.bool false)], args := [d1, d2, d3] }
  | _ => none }
def PortBestWrongFalsely : Prop := portBestRow.holds Try.pinned (OpenSpec.ofChange portBestWrong)

/-- 'polynyalaw09.PortRuns': WHATEVER THE INPUT: true; the input reads as it did. -/
def portRunsSpec : ChangeSpec := { name := "portRuns", fn := fun _ => fun
  | [d1, d2, d3, d4, d5, d6] => { results := [.lit (.bool true)], args := [d1, d2, d3, d4, d5, d6] }
  | _ => none }
def portRunsRow : OpenClaim := { program := "ythmldeningpjbaa", sum := "f9e3ef2f885a5de7cde036a1263871bf39471979aeb11e04900664dc7f36d501", func := "polynya/polynyalaw09.PortRuns", spec := "portRuns", unfollowed := true, recurses := true, plainKeys := false, apart := false }
def PortRunsSaid : Prop := portRunsRow.holds Try.pinned (OpenSpec.ofChange portRunsSpec)

/-- ITS FALSE NEIGHBOUR: 'it returns false'. Refute it at one input. -/
def portRunsWrong : ChangeSpec := { name := "portRuns", fn := fun _ => fun
  | [d1, d2, d3, d4, d5, d6] => { results := [.lit (.bool false)], args := [d1, d2, d3, d4, d5, d6] }
  | _ => none }
def PortRunsWrongFalsely : Prop := portRunsRow.holds Try.pinned (OpenSpec.ofChange portRunsWrong)

/-- 'polynyalaw09.PortLess': WHATEVER THE INPUT: true; the input reads as it did. -/
def portLessSpec : ChangeSpec := { name := "portLess", fn := fun _ => fun
  | [d1, d2, d3, d4, d5, d6] => { results := [.lit (.bool true)], args := [d1, d2, d3, d4, d5, d6] }
  | _ => none }
def portLessRow : OpenClaim := { program := "ythmldeningpjbaa", sum := "f9e3ef2f885a5de7cde036a1263871bf39471979aeb11e04900664dc7f36d501", func := "polynya/polynyalaw09.PortLess", spec := "portLess", inPlace := ["slices.overlaps[polynya/port.Call]"], unfollowed := true, recurses := true, plainKeys := false, apart := false }
def PortLessSaid : Prop := portLessRow.holds Try.pinned (OpenSpec.ofChange portLessSpec)

/-- ITS FALSE NEIGHBOUR: 'it returns false'. Refute it at one input. -/
def portLessWrong : ChangeSpec := { name := "portLess", fn := fun _ => fun
  | [d1, d2, d3, d4, d5, d6] => { results := [.lit (.bool false)], args := [d1, d2, d3, d4, d5, d6] }
  | _ => none }
def PortLessWrongFalsely : Prop := portLessRow.holds Try.pinned (OpenSpec.ofChange portLessWrong)

/-- 'polynyalaw09.PortClosed': WHATEVER THE INPUT: true; the input reads as it did. -/
def portClosedSpec : ChangeSpec := { name := "portClosed", fn := fun _ => fun
  | [d1, d2, d3, d4, d5, d6, d7] => { results := [.lit (.bool true)], args := [d1, d2, d3, d4, d5, d6, d7] }
  | _ => none }
def portClosedRow : OpenClaim := { program := "ythmldeningpjbaa", sum := "f9e3ef2f885a5de7cde036a1263871bf39471979aeb11e04900664dc7f36d501", func := "polynya/polynyalaw09.PortClosed", spec := "portClosed", unfollowed := true, recurses := true, plainKeys := false, apart := false }
def PortClosedSaid : Prop := portClosedRow.holds Try.pinned (OpenSpec.ofChange portClosedSpec)

/-- ITS FALSE NEIGHBOUR: 'it returns false'. Refute it at one input. -/
def portClosedWrong : ChangeSpec := { name := "portClosed", fn := fun _ => fun
  | [d1, d2, d3, d4, d5, d6, d7] => { results := [.lit (.bool false)], args := [d1, d2, d3, d4, d5, d6, d7] }
  | _ => none }
def PortClosedWrongFalsely : Prop := portClosedRow.holds Try.pinned (OpenSpec.ofChange portClosedWrong)

/- THE SECOND FORM. 'bulk': how many values and letters a reading holds, each counted each time it is reached (what is shared counts as often as it is met; a slice's spare places count too). A statement '..UptoSaid' is the law's where the arguments, and the package variables that the reading takes, are together of bulk at most 1048576: NARROWER than '..Said'. Prove '..Said' where nothing that the law and all that it calls make is longer than what came in: it says more and counts as full. Else prove '..UptoSaid'. A law counts once. -/
mutual
def uptoBulk {H : Type} : DataW H → Nat
  | .lit (.string bytes) => bytes.length + 1
  | .lit _ => 1
  | .nil => 1
  | .ptr d => uptoBulk d + 1
  | .slice elems spare => uptoBulkAll elems + uptoBulkAll spare + 1
  | .agg parts => uptoBulkAll parts + 1
  | .iface _ d => uptoBulk d + 1
  | .map entries => uptoBulkEntries entries + 1
  | .held _ => 1
def uptoBulkAll {H : Type} : List (DataW H) → Nat
  | [] => 0
  | d :: r => uptoBulk d + uptoBulkAll r
def uptoBulkEntries {H : Type} : List (Lit × DataW H) → Nat
  | [] => 0
  | x :: r => uptoBulkEntry x + uptoBulkEntries r
def uptoBulkEntry {H : Type} : Lit × DataW H → Nat
  | (.string bytes, d) => bytes.length + uptoBulk d + 1
  | (_, d) => uptoBulk d + 1
 end
def uptoSmall : (H : Type) → List (DataW H) → Bool := fun _ ds => decide (uptoBulkAll ds ≤ 1048576)
def OpenSpec.upto (s : _root_.Go.ChangeSpec) : _root_.Go.OpenSpec := { _root_.Go.OpenSpec.ofChange s with cond := some uptoSmall }

/-- 'polynyalaw09.PortOpen', WHERE WHAT IT READS IS OF BULK AT MOST 1048576: true; the input reads as it did. -/
def portOpenUptoRow : OpenClaim := { program := "ythmldeningpjbaa", sum := "f9e3ef2f885a5de7cde036a1263871bf39471979aeb11e04900664dc7f36d501", func := "polynya/polynyalaw09.PortOpen", spec := "portOpen", unfollowed := true, recurses := true, plainKeys := false, apart := false, narrowed := true }
def PortOpenUptoSaid : Prop := portOpenUptoRow.holds Try.pinned (OpenSpec.upto portOpenSpec)

/-- 'polynyalaw09.PortJoins', WHERE WHAT IT READS IS OF BULK AT MOST 1048576: true; the input reads as it did. -/
def portJoinsUptoRow : OpenClaim := { program := "ythmldeningpjbaa", sum := "f9e3ef2f885a5de7cde036a1263871bf39471979aeb11e04900664dc7f36d501", func := "polynya/polynyalaw09.PortJoins", spec := "portJoins", unfollowed := true, recurses := true, plainKeys := false, apart := false, narrowed := true }
def PortJoinsUptoSaid : Prop := portJoinsUptoRow.holds Try.pinned (OpenSpec.upto portJoinsSpec)

/-- 'polynyalaw09.PortFolds', WHERE WHAT IT READS IS OF BULK AT MOST 1048576: true; the input reads as it did. -/
def portFoldsUptoRow : OpenClaim := { program := "ythmldeningpjbaa", sum := "f9e3ef2f885a5de7cde036a1263871bf39471979aeb11e04900664dc7f36d501", func := "polynya/polynyalaw09.PortFolds", spec := "portFolds", unfollowed := true, recurses := true, plainKeys := false, apart := false, narrowed := true }
def PortFoldsUptoSaid : Prop := portFoldsUptoRow.holds Try.pinned (OpenSpec.upto portFoldsSpec)

/-- 'polynyalaw09.PortForever', WHERE WHAT IT READS IS OF BULK AT MOST 1048576: true; the input reads as it did. -/
def portForeverUptoRow : OpenClaim := { program := "ythmldeningpjbaa", sum := "f9e3ef2f885a5de7cde036a1263871bf39471979aeb11e04900664dc7f36d501", func := "polynya/polynyalaw09.PortForever", spec := "portForever", unfollowed := true, recurses := true, plainKeys := false, apart := false, narrowed := true }
def PortForeverUptoSaid : Prop := portForeverUptoRow.holds Try.pinned (OpenSpec.upto portForeverSpec)

/-- 'polynyalaw09.PortMaps', WHERE WHAT IT READS IS OF BULK AT MOST 1048576: true; the input reads as it did. -/
def portMapsUptoRow : OpenClaim := { program := "ythmldeningpjbaa", sum := "f9e3ef2f885a5de7cde036a1263871bf39471979aeb11e04900664dc7f36d501", func := "polynya/polynyalaw09.PortMaps", spec := "portMaps", unfollowed := true, recurses := true, plainKeys := false, apart := false, narrowed := true }
def PortMapsUptoSaid : Prop := portMapsUptoRow.holds Try.pinned (OpenSpec.upto portMapsSpec)

/-- 'polynyalaw09.PortBest', WHERE WHAT IT READS IS OF BULK AT MOST 1048576: true; the input reads as it did. -/
def portBestUptoRow : OpenClaim := { program := "ythmldeningpjbaa", sum := "f9e3ef2f885a5de7cde036a1263871bf39471979aeb11e04900664dc7f36d501", func := "polynya/polynyalaw09.PortBest", spec := "portBest", unfollowed := true, recurses := true, plainKeys := false, apart := false, narrowed := true }
def PortBestUptoSaid : Prop := portBestUptoRow.holds Try.pinned (OpenSpec.upto portBestSpec)

/-- 'polynyalaw09.PortRuns', WHERE WHAT IT READS IS OF BULK AT MOST 1048576: true; the input reads as it did. -/
def portRunsUptoRow : OpenClaim := { program := "ythmldeningpjbaa", sum := "f9e3ef2f885a5de7cde036a1263871bf39471979aeb11e04900664dc7f36d501", func := "polynya/polynyalaw09.PortRuns", spec := "portRuns", unfollowed := true, recurses := true, plainKeys := false, apart := false, narrowed := true }
def PortRunsUptoSaid : Prop := portRunsUptoRow.holds Try.pinned (OpenSpec.upto portRunsSpec)

/-- 'polynyalaw09.PortLess', WHERE WHAT IT READS IS OF BULK AT MOST 1048576: true; the input reads as it did. -/
def portLessUptoRow : OpenClaim := { program := "ythmldeningpjbaa", sum := "f9e3ef2f885a5de7cde036a1263871bf39471979aeb11e04900664dc7f36d501", func := "polynya/polynyalaw09.PortLess", spec := "portLess", inPlace := ["slices.overlaps[polynya/port.Call]"], unfollowed := true, recurses := true, plainKeys := false, apart := false, narrowed := true }
def PortLessUptoSaid : Prop := portLessUptoRow.holds Try.pinned (OpenSpec.upto portLessSpec)

/-- 'polynyalaw09.PortClosed', WHERE WHAT IT READS IS OF BULK AT MOST 1048576: true; the input reads as it did. -/
def portClosedUptoRow : OpenClaim := { program := "ythmldeningpjbaa", sum := "f9e3ef2f885a5de7cde036a1263871bf39471979aeb11e04900664dc7f36d501", func := "polynya/polynyalaw09.PortClosed", spec := "portClosed", unfollowed := true, recurses := true, plainKeys := false, apart := false, narrowed := true }
def PortClosedUptoSaid : Prop := portClosedUptoRow.holds Try.pinned (OpenSpec.upto portClosedSpec)

end Rows
end Go.Proofs.Ythmldeningpjbaa
