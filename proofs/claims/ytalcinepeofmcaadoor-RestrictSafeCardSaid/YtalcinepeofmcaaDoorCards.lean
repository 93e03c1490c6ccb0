/-
  DERIVED. GIVEN WITH THE SEED: THE CARDS: each row of YtalcinepeofmcaaDoorRows.lean that lists a variable, with what it lists TIED to the program's text (the seventh form; the later family's looks); each row that meets fmt, with fmt's text TOLD by the authors' own Lean function (tested against real Go, not proved from fmt's source: count such statements apart). THE CARD IS WHAT COUNTS. Prove the row's statement (the work); the ties are given (YtalcinepeofmcaaDoorTie.lean); close each card by the builder's one call (the guide's Derived/Test/ToyasCard.lean, 'card_holds'). Laid BY PROGRAM, IN A SANDBOX (cutbox-door.mjs). By AI agents, Wed Nov 11 2026. No macro, syntax, notation, axiom, sorry.
-/
import Derived.Test.YtalcinepeofmcaaDoorRows
import GoSem.ClaimSeven
namespace Go.Proofs.YtalcinepeofmcaaDoor
namespace Rows

/-- THE TIED CARD OF 'polynyalaw08.RestrictSafe'. -/
def restrictSafeCard : Claim7 := { stood := { row := restrictSafeRow, standIns := [], harness := (true, "d064dda35b35ad728ad81d36036d85ae7421d07a7eaacfb2b81a79e90985b386"), looks := false }, kinds := [], alts := [], laidByText := true, laidKinds := [.data], laidTests := true, laidLooks := .later }
def RestrictSafeCardSaid : Prop := Claim7.holds Tryd.pinned (.plain (OpenSpec.ofChange restrictSafeSpec)) restrictSafeCard

/-- THE SECOND FORM's CARD OF 'polynyalaw08.RestrictSafe'. -/
def restrictSafeUptoCard : Claim7 := { stood := { row := restrictSafeUptoRow, standIns := [], harness := (true, "d064dda35b35ad728ad81d36036d85ae7421d07a7eaacfb2b81a79e90985b386"), looks := false }, kinds := [], alts := [], laidByText := true, laidKinds := [.data], laidTests := true, laidLooks := .later }
def RestrictSafeUptoCardSaid : Prop := Claim7.holds Tryd.pinned (.plain (OpenSpec.upto restrictSafeSpec)) restrictSafeUptoCard
end Rows
end Go.Proofs.YtalcinepeofmcaaDoor
