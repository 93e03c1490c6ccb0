/- The loops of a function's text, in its order: for a loop's round as a theorem of its own. -/
import Derived.WalkKit
namespace Go.Proofs.Ytfmhlnfcbbpfeaa
open Go

def loopsOf : Code → List Code
  | .loop c => c :: loopsOf c
  | .seq a b => loopsOf a ++ loopsOf b
  | .block _ c => loopsOf c
  | .scope c => loopsOf c
  | .cond _ a b => loopsOf a ++ loopsOf b
  | _ => []
noncomputable def loopBody (f : Func) (i : Nat) : Code := ((loopsOf (f.body.getD .skip))[i]?).getD .skip
end Go.Proofs.Ytfmhlnfcbbpfeaa
