/-
  No cell of these rows narrows 'for every input' (looked for: loops, veiled, ifaces, maps, wideKeys, modest, calm, conditions, laid).
  DERIVED. THE GIVEN ROWS OF THIS SEAT. 10 by the template 'for every input the law returns true; each argument reads behind the call as it read before'; 0 by the template 'total and deterministic' (their statements: YtfmhlnfcbbpfeaaTotals.lean).
  GIVEN WITH THE SEED: the statements are not yours to turn. If you find one false, say at which input.
  Laid BY PROGRAM, IN A SANDBOX (cutbox-rows.mjs): the forced cells as the released guide's own fill.sh prints them over the translation c9305dc5ceada6ae… (all of the seat's roots in one cut). By AI agents, Wed Nov 11 2026. No macro, syntax, notation, axiom, sorry.
-/
import Derived.Test.YtfmhlnfcbbpfeaaChecked
import GoSem.Claim
import GoSem.ClaimJoined
import GoSem.ClaimMapViews
import Derived.JoinedTies
import Derived.KernelRfl
namespace Go.Proofs.Ytfmhlnfcbbpfeaa
/- THE CELL 'sum', in the pinned program and in every row, IS THE sha256 OF THE DUMP (.gsa) THAT YtfmhlnfcbbpfeaaProg.lean LOADS. Nothing in Lean hashes anything: it is a label: what it is worth is what the hold of that sum in a sandbox is worth. -/
noncomputable def Try.pinned : Pinned := { name := "ytfmhlnfcbbpfeaa", sum := "c9305dc5ceada6ae196d4c99c1a4ef57200c0bcc97f1fb0a67d59051aa77ad81", checked := Try.checked }
namespace Rows
def none {H : Type} : Left H := { results := [], args := [] }

/-- 'polynyalaw08.RestrictReviewed': WHATEVER THE INPUT: true; the input reads as it did. -/
def restrictReviewedSpec : ChangeSpec := { name := "restrictReviewed", fn := fun _ => fun
  | [d1, d2, d3, d4, d5, d6, d7, d8] => { results := [.lit (.bool true)], args := [d1, d2, d3, d4, d5, d6, d7, d8] }
  | _ => none }
def restrictReviewedRow : OpenClaim := { program := "ytfmhlnfcbbpfeaa", sum := "c9305dc5ceada6ae196d4c99c1a4ef57200c0bcc97f1fb0a67d59051aa77ad81", func := "polynya/polynyalaw08.RestrictReviewed", spec := "restrictReviewed", unfollowed := true, recurses := true, apart := false }
def RestrictReviewedSaid : Prop := restrictReviewedRow.holds Try.pinned (OpenSpec.ofChange restrictReviewedSpec)

/-- ITS FALSE NEIGHBOUR: 'it returns false'. Refute it at one input. -/
def restrictReviewedWrong : ChangeSpec := { name := "restrictReviewed", fn := fun _ => fun
  | [d1, d2, d3, d4, d5, d6, d7, d8] => { results := [.lit (.bool false)], args := [d1, d2, d3, d4, d5, d6, d7, d8] }
  | _ => none }
def RestrictReviewedWrongFalsely : Prop := restrictReviewedRow.holds Try.pinned (OpenSpec.ofChange restrictReviewedWrong)

/-- 'polynyalaw08.RestrictShown': WHATEVER THE INPUT: true; the input reads as it did. -/
def restrictShownSpec : ChangeSpec := { name := "restrictShown", fn := fun _ => fun
  | [d1, d2, d3, d4, d5] => { results := [.lit (.bool true)], args := [d1, d2, d3, d4, d5] }
  | _ => none }
def restrictShownRow : OpenClaim := { program := "ytfmhlnfcbbpfeaa", sum := "c9305dc5ceada6ae196d4c99c1a4ef57200c0bcc97f1fb0a67d59051aa77ad81", func := "polynya/polynyalaw08.RestrictShown", spec := "restrictShown", unfollowed := true, recurses := true, apart := false }
def RestrictShownSaid : Prop := restrictShownRow.holds Try.pinned (OpenSpec.ofChange restrictShownSpec)

/-- ITS FALSE NEIGHBOUR: 'it returns false'. Refute it at one input. -/
def restrictShownWrong : ChangeSpec := { name := "restrictShown", fn := fun _ => fun
  | [d1, d2, d3, d4, d5] => { results := [.lit (.bool false)], args := [d1, d2, d3, d4, d5] }
  | _ => none }
def RestrictShownWrongFalsely : Prop := restrictShownRow.holds Try.pinned (OpenSpec.ofChange restrictShownWrong)

/-- 'polynyalaw08.RestrictNotice': WHATEVER THE INPUT: true; the input reads as it did. -/
def restrictNoticeSpec : ChangeSpec := { name := "restrictNotice", fn := fun _ => fun
  | [d1, d2] => { results := [.lit (.bool true)], args := [d1, d2] }
  | _ => none }
def restrictNoticeRow : OpenClaim := { program := "ytfmhlnfcbbpfeaa", sum := "c9305dc5ceada6ae196d4c99c1a4ef57200c0bcc97f1fb0a67d59051aa77ad81", func := "polynya/polynyalaw08.RestrictNotice", spec := "restrictNotice", unfollowed := true, recurses := true, apart := false }
def RestrictNoticeSaid : Prop := restrictNoticeRow.holds Try.pinned (OpenSpec.ofChange restrictNoticeSpec)

/-- ITS FALSE NEIGHBOUR: 'it returns false'. Refute it at one input. -/
def restrictNoticeWrong : ChangeSpec := { name := "restrictNotice", fn := fun _ => fun
  | [d1, d2] => { results := [.lit (.bool false)], args := [d1, d2] }
  | _ => none }
def RestrictNoticeWrongFalsely : Prop := restrictNoticeRow.holds Try.pinned (OpenSpec.ofChange restrictNoticeWrong)

/-- 'polynyalaw08.RestrictMore': WHATEVER THE INPUT: true; the input reads as it did. -/
def restrictMoreSpec : ChangeSpec := { name := "restrictMore", fn := fun _ => fun
  | [d1, d2, d3, d4, d5, d6] => { results := [.lit (.bool true)], args := [d1, d2, d3, d4, d5, d6] }
  | _ => none }
def restrictMoreRow : OpenClaim := { program := "ytfmhlnfcbbpfeaa", sum := "c9305dc5ceada6ae196d4c99c1a4ef57200c0bcc97f1fb0a67d59051aa77ad81", func := "polynya/polynyalaw08.RestrictMore", spec := "restrictMore", unfollowed := true, recurses := true, apart := false }
def RestrictMoreSaid : Prop := restrictMoreRow.holds Try.pinned (OpenSpec.ofChange restrictMoreSpec)

/-- ITS FALSE NEIGHBOUR: 'it returns false'. Refute it at one input. -/
def restrictMoreWrong : ChangeSpec := { name := "restrictMore", fn := fun _ => fun
  | [d1, d2, d3, d4, d5, d6] => { results := [.lit (.bool false)], args := [d1, d2, d3, d4, d5, d6] }
  | _ => none }
def RestrictMoreWrongFalsely : Prop := restrictMoreRow.holds Try.pinned (OpenSpec.ofChange restrictMoreWrong)

/-- 'polynyalaw08.RestrictNeeded': WHATEVER THE INPUT: true; the input reads as it did. -/
def restrictNeededSpec : ChangeSpec := { name := "restrictNeeded", fn := fun _ => fun
  | [d1, d2, d3, d4, d5, d6] => { results := [.lit (.bool true)], args := [d1, d2, d3, d4, d5, d6] }
  | _ => none }
def restrictNeededRow : OpenClaim := { program := "ytfmhlnfcbbpfeaa", sum := "c9305dc5ceada6ae196d4c99c1a4ef57200c0bcc97f1fb0a67d59051aa77ad81", func := "polynya/polynyalaw08.RestrictNeeded", spec := "restrictNeeded", unfollowed := true, recurses := true, apart := false }
def RestrictNeededSaid : Prop := restrictNeededRow.holds Try.pinned (OpenSpec.ofChange restrictNeededSpec)

/-- ITS FALSE NEIGHBOUR: 'it returns false'. Refute it at one input. -/
def restrictNeededWrong : ChangeSpec := { name := "restrictNeeded", fn := fun _ => fun
  | [d1, d2, d3, d4, d5, d6] => { results := [.lit (.bool false)], args := [d1, d2, d3, d4, d5, d6] }
  | _ => none }
def RestrictNeededWrongFalsely : Prop := restrictNeededRow.holds Try.pinned (OpenSpec.ofChange restrictNeededWrong)

/-- 'polynyalaw08.RestrictSteps': WHATEVER THE INPUT: true; the input reads as it did. -/
def restrictStepsSpec : ChangeSpec := { name := "restrictSteps", fn := fun _ => fun
  | [d1, d2, d3, d4, d5, d6] => { results := [.lit (.bool true)], args := [d1, d2, d3, d4, d5, d6] }
  | _ => none }
def restrictStepsRow : OpenClaim := { program := "ytfmhlnfcbbpfeaa", sum := "c9305dc5ceada6ae196d4c99c1a4ef57200c0bcc97f1fb0a67d59051aa77ad81", func := "polynya/polynyalaw08.RestrictSteps", spec := "restrictSteps", unfollowed := true, recurses := true, apart := false }
def RestrictStepsSaid : Prop := restrictStepsRow.holds Try.pinned (OpenSpec.ofChange restrictStepsSpec)

/-- ITS FALSE NEIGHBOUR: 'it returns false'. Refute it at one input. -/
def restrictStepsWrong : ChangeSpec := { name := "restrictSteps", fn := fun _ => fun
  | [d1, d2, d3, d4, d5, d6] => { results := [.lit (.bool false)], args := [d1, d2, d3, d4, d5, d6] }
  | _ => none }
def RestrictStepsWrongFalsely : Prop := restrictStepsRow.holds Try.pinned (OpenSpec.ofChange restrictStepsWrong)

/-- 'polynyalaw08.RestrictVessels': WHATEVER THE INPUT: true; the input reads as it did. -/
def restrictVesselsSpec : ChangeSpec := { name := "restrictVessels", fn := fun _ => fun
  | [d1, d2, d3, d4, d5, d6] => { results := [.lit (.bool true)], args := [d1, d2, d3, d4, d5, d6] }
  | _ => none }
def restrictVesselsRow : OpenClaim := { program := "ytfmhlnfcbbpfeaa", sum := "c9305dc5ceada6ae196d4c99c1a4ef57200c0bcc97f1fb0a67d59051aa77ad81", func := "polynya/polynyalaw08.RestrictVessels", spec := "restrictVessels", unfollowed := true, recurses := true, apart := false }
def RestrictVesselsSaid : Prop := restrictVesselsRow.holds Try.pinned (OpenSpec.ofChange restrictVesselsSpec)

/-- ITS FALSE NEIGHBOUR: 'it returns false'. Refute it at one input. -/
def restrictVesselsWrong : ChangeSpec := { name := "restrictVessels", fn := fun _ => fun
  | [d1, d2, d3, d4, d5, d6] => { results := [.lit (.bool false)], args := [d1, d2, d3, d4, d5, d6] }
  | _ => none }
def RestrictVesselsWrongFalsely : Prop := restrictVesselsRow.holds Try.pinned (OpenSpec.ofChange restrictVesselsWrong)

/-- 'polynyalaw08.RestrictWithin': WHATEVER THE INPUT: true; the input reads as it did. -/
def restrictWithinSpec : ChangeSpec := { name := "restrictWithin", fn := fun _ => fun
  | [d1, d2, d3, d4, d5, d6] => { results := [.lit (.bool true)], args := [d1, d2, d3, d4, d5, d6] }
  | _ => none }
def restrictWithinRow : OpenClaim := { program := "ytfmhlnfcbbpfeaa", sum := "c9305dc5ceada6ae196d4c99c1a4ef57200c0bcc97f1fb0a67d59051aa77ad81", func := "polynya/polynyalaw08.RestrictWithin", spec := "restrictWithin", unfollowed := true, recurses := true, apart := false }
def RestrictWithinSaid : Prop := restrictWithinRow.holds Try.pinned (OpenSpec.ofChange restrictWithinSpec)

/-- ITS FALSE NEIGHBOUR: 'it returns false'. Refute it at one input. -/
def restrictWithinWrong : ChangeSpec := { name := "restrictWithin", fn := fun _ => fun
  | [d1, d2, d3, d4, d5, d6] => { results := [.lit (.bool false)], args := [d1, d2, d3, d4, d5, d6] }
  | _ => none }
def RestrictWithinWrongFalsely : Prop := restrictWithinRow.holds Try.pinned (OpenSpec.ofChange restrictWithinWrong)

/-- 'polynyalaw08.RestrictBounds': WHATEVER THE INPUT: true; the input reads as it did. -/
def restrictBoundsSpec : ChangeSpec := { name := "restrictBounds", fn := fun _ => fun
  | [d1, d2, d3, d4, d5, d6, d7] => { results := [.lit (.bool true)], args := [d1, d2, d3, d4, d5, d6, d7] }
  | _ => none }
def restrictBoundsRow : OpenClaim := { program := "ytfmhlnfcbbpfeaa", sum := "c9305dc5ceada6ae196d4c99c1a4ef57200c0bcc97f1fb0a67d59051aa77ad81", func := "polynya/polynyalaw08.RestrictBounds", spec := "restrictBounds", unfollowed := true, recurses := true, apart := false }
def RestrictBoundsSaid : Prop := restrictBoundsRow.holds Try.pinned (OpenSpec.ofChange restrictBoundsSpec)

/-- ITS FALSE NEIGHBOUR: 'it returns false'. Refute it at one input. -/
def restrictBoundsWrong : ChangeSpec := { name := "restrictBounds", fn := fun _ => fun
  | [d1, d2, d3, d4, d5, d6, d7] => { results := [.lit (.bool false)], args := [d1, d2, d3, d4, d5, d6, d7] }
  | _ => none }
def RestrictBoundsWrongFalsely : Prop := restrictBoundsRow.holds Try.pinned (OpenSpec.ofChange restrictBoundsWrong)

/-- 'polynyalaw08.RestrictCharts': WHATEVER THE INPUT: true; the input reads as it did. -/
def restrictChartsSpec : ChangeSpec := { name := "restrictCharts", fn := fun _ => fun
  | [d1, d2, d3, d4, d5] => { results := [.lit (.bool true)], args := [d1, d2, d3, d4, d5] }
  | _ => none }
def restrictChartsRow : OpenClaim := { program := "ytfmhlnfcbbpfeaa", sum := "c9305dc5ceada6ae196d4c99c1a4ef57200c0bcc97f1fb0a67d59051aa77ad81", func := "polynya/polynyalaw08.RestrictCharts", spec := "restrictCharts", unfollowed := true, recurses := true, apart := false }
def RestrictChartsSaid : Prop := restrictChartsRow.holds Try.pinned (OpenSpec.ofChange restrictChartsSpec)

/-- ITS FALSE NEIGHBOUR: 'it returns false'. Refute it at one input. -/
def restrictChartsWrong : ChangeSpec := { name := "restrictCharts", fn := fun _ => fun
  | [d1, d2, d3, d4, d5] => { results := [.lit (.bool false)], args := [d1, d2, d3, d4, d5] }
  | _ => none }
def RestrictChartsWrongFalsely : Prop := restrictChartsRow.holds Try.pinned (OpenSpec.ofChange restrictChartsWrong)

/- THE SECOND FORM. 'bulk': how many values and letters a reading holds, each counted each time it is reached (what is shared counts as often as it is met; a slice's spare places count too). A statement '..UptoSaid' is the law's where the arguments, and the package variables that the reading takes, are together of bulk at most 1048576: NARROWER than '..Said'. Prove '..Said' where nothing that the law and all that it calls make is longer than what came in: it says more and counts as full. Else prove '..UptoSaid'. A law counts once. -/
mutual
def uptoBulk {H : Type} : DataW H → Nat
  | .lit (.string bytes) => bytes.length + 1
  | .lit _ => 1
  | .nil => 1
  | .ptr d => uptoBulk d + 1
  | .slice elems spare => uptoBulkAll elems + uptoBulkAll spare + 1
  | .agg parts => uptoBulkAll parts + 1
  | .iface _ d => uptoBulk d + 1
  | .map entries => uptoBulkEntries entries + 1
  | .held _ => 1
def uptoBulkAll {H : Type} : List (DataW H) → Nat
  | [] => 0
  | d :: r => uptoBulk d + uptoBulkAll r
def uptoBulkEntries {H : Type} : List (Lit × DataW H) → Nat
  | [] => 0
  | x :: r => uptoBulkEntry x + uptoBulkEntries r
def uptoBulkEntry {H : Type} : Lit × DataW H → Nat
  | (.string bytes, d) => bytes.length + uptoBulk d + 1
  | (_, d) => uptoBulk d + 1
 end
def uptoSmall : (H : Type) → List (DataW H) → Bool := fun _ ds => decide (uptoBulkAll ds ≤ 1048576)
def OpenSpec.upto (s : _root_.Go.ChangeSpec) : _root_.Go.OpenSpec := { _root_.Go.OpenSpec.ofChange s with cond := some uptoSmall }

/-- 'polynyalaw08.RestrictReviewed', WHERE WHAT IT READS IS OF BULK AT MOST 1048576: true; the input reads as it did. -/
def restrictReviewedUptoRow : OpenClaim := { program := "ytfmhlnfcbbpfeaa", sum := "c9305dc5ceada6ae196d4c99c1a4ef57200c0bcc97f1fb0a67d59051aa77ad81", func := "polynya/polynyalaw08.RestrictReviewed", spec := "restrictReviewed", unfollowed := true, recurses := true, apart := false, narrowed := true }
def RestrictReviewedUptoSaid : Prop := restrictReviewedUptoRow.holds Try.pinned (OpenSpec.upto restrictReviewedSpec)

/-- 'polynyalaw08.RestrictShown', WHERE WHAT IT READS IS OF BULK AT MOST 1048576: true; the input reads as it did. -/
def restrictShownUptoRow : OpenClaim := { program := "ytfmhlnfcbbpfeaa", sum := "c9305dc5ceada6ae196d4c99c1a4ef57200c0bcc97f1fb0a67d59051aa77ad81", func := "polynya/polynyalaw08.RestrictShown", spec := "restrictShown", unfollowed := true, recurses := true, apart := false, narrowed := true }
def RestrictShownUptoSaid : Prop := restrictShownUptoRow.holds Try.pinned (OpenSpec.upto restrictShownSpec)

/-- 'polynyalaw08.RestrictNotice', WHERE WHAT IT READS IS OF BULK AT MOST 1048576: true; the input reads as it did. -/
def restrictNoticeUptoRow : OpenClaim := { program := "ytfmhlnfcbbpfeaa", sum := "c9305dc5ceada6ae196d4c99c1a4ef57200c0bcc97f1fb0a67d59051aa77ad81", func := "polynya/polynyalaw08.RestrictNotice", spec := "restrictNotice", unfollowed := true, recurses := true, apart := false, narrowed := true }
def RestrictNoticeUptoSaid : Prop := restrictNoticeUptoRow.holds Try.pinned (OpenSpec.upto restrictNoticeSpec)

/-- 'polynyalaw08.RestrictMore', WHERE WHAT IT READS IS OF BULK AT MOST 1048576: true; the input reads as it did. -/
def restrictMoreUptoRow : OpenClaim := { program := "ytfmhlnfcbbpfeaa", sum := "c9305dc5ceada6ae196d4c99c1a4ef57200c0bcc97f1fb0a67d59051aa77ad81", func := "polynya/polynyalaw08.RestrictMore", spec := "restrictMore", unfollowed := true, recurses := true, apart := false, narrowed := true }
def RestrictMoreUptoSaid : Prop := restrictMoreUptoRow.holds Try.pinned (OpenSpec.upto restrictMoreSpec)

/-- 'polynyalaw08.RestrictNeeded', WHERE WHAT IT READS IS OF BULK AT MOST 1048576: true; the input reads as it did. -/
def restrictNeededUptoRow : OpenClaim := { program := "ytfmhlnfcbbpfeaa", sum := "c9305dc5ceada6ae196d4c99c1a4ef57200c0bcc97f1fb0a67d59051aa77ad81", func := "polynya/polynyalaw08.RestrictNeeded", spec := "restrictNeeded", unfollowed := true, recurses := true, apart := false, narrowed := true }
def RestrictNeededUptoSaid : Prop := restrictNeededUptoRow.holds Try.pinned (OpenSpec.upto restrictNeededSpec)

/-- 'polynyalaw08.RestrictSteps', WHERE WHAT IT READS IS OF BULK AT MOST 1048576: true; the input reads as it did. -/
def restrictStepsUptoRow : OpenClaim := { program := "ytfmhlnfcbbpfeaa", sum := "c9305dc5ceada6ae196d4c99c1a4ef57200c0bcc97f1fb0a67d59051aa77ad81", func := "polynya/polynyalaw08.RestrictSteps", spec := "restrictSteps", unfollowed := true, recurses := true, apart := false, narrowed := true }
def RestrictStepsUptoSaid : Prop := restrictStepsUptoRow.holds Try.pinned (OpenSpec.upto restrictStepsSpec)

/-- 'polynyalaw08.RestrictVessels', WHERE WHAT IT READS IS OF BULK AT MOST 1048576: true; the input reads as it did. -/
def restrictVesselsUptoRow : OpenClaim := { program := "ytfmhlnfcbbpfeaa", sum := "c9305dc5ceada6ae196d4c99c1a4ef57200c0bcc97f1fb0a67d59051aa77ad81", func := "polynya/polynyalaw08.RestrictVessels", spec := "restrictVessels", unfollowed := true, recurses := true, apart := false, narrowed := true }
def RestrictVesselsUptoSaid : Prop := restrictVesselsUptoRow.holds Try.pinned (OpenSpec.upto restrictVesselsSpec)

/-- 'polynyalaw08.RestrictWithin', WHERE WHAT IT READS IS OF BULK AT MOST 1048576: true; the input reads as it did. -/
def restrictWithinUptoRow : OpenClaim := { program := "ytfmhlnfcbbpfeaa", sum := "c9305dc5ceada6ae196d4c99c1a4ef57200c0bcc97f1fb0a67d59051aa77ad81", func := "polynya/polynyalaw08.RestrictWithin", spec := "restrictWithin", unfollowed := true, recurses := true, apart := false, narrowed := true }
def RestrictWithinUptoSaid : Prop := restrictWithinUptoRow.holds Try.pinned (OpenSpec.upto restrictWithinSpec)

/-- 'polynyalaw08.RestrictBounds', WHERE WHAT IT READS IS OF BULK AT MOST 1048576: true; the input reads as it did. -/
def restrictBoundsUptoRow : OpenClaim := { program := "ytfmhlnfcbbpfeaa", sum := "c9305dc5ceada6ae196d4c99c1a4ef57200c0bcc97f1fb0a67d59051aa77ad81", func := "polynya/polynyalaw08.RestrictBounds", spec := "restrictBounds", unfollowed := true, recurses := true, apart := false, narrowed := true }
def RestrictBoundsUptoSaid : Prop := restrictBoundsUptoRow.holds Try.pinned (OpenSpec.upto restrictBoundsSpec)

/-- 'polynyalaw08.RestrictCharts', WHERE WHAT IT READS IS OF BULK AT MOST 1048576: true; the input reads as it did. -/
def restrictChartsUptoRow : OpenClaim := { program := "ytfmhlnfcbbpfeaa", sum := "c9305dc5ceada6ae196d4c99c1a4ef57200c0bcc97f1fb0a67d59051aa77ad81", func := "polynya/polynyalaw08.RestrictCharts", spec := "restrictCharts", unfollowed := true, recurses := true, apart := false, narrowed := true }
def RestrictChartsUptoSaid : Prop := restrictChartsUptoRow.holds Try.pinned (OpenSpec.upto restrictChartsSpec)

end Rows
end Go.Proofs.Ytfmhlnfcbbpfeaa
