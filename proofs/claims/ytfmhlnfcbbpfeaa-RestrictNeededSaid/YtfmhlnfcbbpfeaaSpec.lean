/- What the functions of layer 8 compute, as plain Lean functions over whole numbers. No program is named here. -/
namespace Go.Proofs.Ytfmhlnfcbbpfeaa.Sp

def within (n lo hi : Int) : Bool := decide (lo ≤ n) && decide (n ≤ hi)

structure Stp where
  cls : Int
  ton : Int
  up : Int
  dn : Int
deriving DecidableEq, Inhabited

structure Pol where
  steps : List Stp
  hold : Int
  calm : Int
  notice : Int
  grace : Int

/-- the greatest index (below n) whose number is at most sev; else 0 -/
def upToN (l : List Int) (sev : Int) : Nat → Int
  | 0 => 0
  | n + 1 => if l.getD n 0 ≤ sev then (n : Int) else upToN l sev n

def upTo (l : List Int) (sev : Int) : Int := upToN l sev l.length

structure Ves where
  cls : Int
  ton : Int
  esc : Bool
deriving DecidableEq, Inhabited

def vright (v : Ves) : Bool := within v.cls 0 6 && within v.ton 0 500000
def fulfils (v : Ves) (s : Stp) : Bool := decide (s.cls ≤ (if v.esc then v.cls + 1 else v.cls)) && decide (s.ton ≤ v.ton)

/-- how many of the first k stay when those at the end that can no longer be the first one are dropped -/
def popLen (gr : Bool) (x : Int) (V : List Int) : Nat → Nat
  | 0 => 0
  | k + 1 => if (V.getD k 0 == x) || (decide (x < V.getD k 0) != gr) then popLen gr x V k else k + 1

def headV (D : List (Int × Int)) : Int := (D.headD (0, 0)).1

/-- the numbers that a window keeps, and when they came, behind the next one -/
def pushD (wide at_ : Int) (gr : Bool) (D : List (Int × Int)) (x : Int) : List (Int × Int) :=
  let D1 := D.take (popLen gr x (D.map (·.1)) D.length) ++ [(x, at_)]
  if (D1.headD (0, 0)).2 ≤ at_ - wide then D1.tail else D1

end Go.Proofs.Ytfmhlnfcbbpfeaa.Sp
