/- What the functions of layer 8 compute, further. -/
import Derived.Test.YtfmhlnfcbbpfeaaSpec
namespace Go.Proofs.Ytfmhlnfcbbpfeaa.Sp

/-- what the window keeps behind the first k numbers -/
def dq (wide : Int) (gr : Bool) (xs : List Int) : Nat → List (Int × Int)
  | 0 => []
  | k + 1 => pushD wide (k : Int) gr (dq wide gr xs k) (xs.getD k 0)

def slideN (wide : Int) (gr : Bool) (xs : List Int) (n : Nat) : List Int := (List.range n).map fun k => headV (dq wide gr xs (k + 1))
/-- the least (or greatest) of the last numbers, at each number -/
def slide (wide : Int) (gr : Bool) (xs : List Int) : List Int := slideN wide gr xs xs.length

theorem slideN_succ (wide : Int) (gr : Bool) (xs : List Int) (n : Nat) : slideN wide gr xs (n + 1) = slideN wide gr xs n ++ [headV (dq wide gr xs (n + 1))] := by
  simp [slideN, List.range_succ]
theorem pushD_length (wide at_ : Int) (gr : Bool) (D : List (Int × Int)) (x : Int) : (pushD wide at_ gr D x).length ≤ D.length + 1 := by
  simp only [pushD]
  split <;> simp <;> omega
theorem dq_length (wide : Int) (gr : Bool) (xs : List Int) (k : Nat) : (dq wide gr xs k).length ≤ k := by
  induction k with
  | zero => exact Nat.le_refl _
  | succ k ih => exact Nat.le_trans (pushD_length _ _ _ _ _) (by omega)

theorem slide_length (wide : Int) (gr : Bool) (xs : List Int) : (slide wide gr xs).length = xs.length := by simp [slide, slideN]

def ups (p : Pol) : List Int := p.steps.map (·.up)
def dns (p : Pol) : List Int := p.steps.map (·.dn)

/-- the first k of the numbers f, then those of l -/
def mixN (f : Nat → Int) (l : List Int) (k : Nat) : List Int := (List.range l.length).map fun i => if i < k then f i else l.getD i 0

theorem mixN_length (f : Nat → Int) (l : List Int) (k : Nat) : (mixN f l k).length = l.length := by simp [mixN]
theorem mixN_zero (f : Nat → Int) (l : List Int) : mixN f l 0 = l := by
  apply List.ext_getElem
  · simp [mixN]
  · intro i h1 h2
    simp [mixN, h2]
theorem mixN_set (f : Nat → Int) (l : List Int) (k : Nat) : (mixN f l k).set k (f k) = mixN f l (k + 1) := by
  apply List.ext_getElem
  · simp [mixN]
  · intro i h1 h2
    have hi : i < l.length := by simpa [mixN] using h2
    rw [List.getElem_set]
    by_cases hik : k = i
    · subst hik; simp [mixN]
    · rw [if_neg hik]
      simp only [mixN, List.getElem_map, List.getElem_range]
      by_cases h3 : i < k
      · rw [if_pos h3, if_pos (by omega)]
      · rw [if_neg h3, if_neg (by omega)]
theorem mixN_get (f : Nat → Int) (l : List Int) (k : Nat) (hk : k < l.length) : (mixN f l k).getD k 0 = l.getD k 0 := by
  simp [mixN, hk]
theorem mixN_all (f : Nat → Int) (l : List Int) : mixN f l l.length = (List.range l.length).map f := by
  unfold mixN
  apply List.map_congr_left
  intro i hi
  rw [if_pos (by simpa using hi)]

/-- the step that each day raises to, the step that each day keeps -/
def raisedAt (p : Pol) (sl : List Int) (i : Nat) : Int := upTo (ups p) (if (i : Int) + 1 < p.hold then 0 else sl.getD i 0)
def raisedS (p : Pol) (days : List Int) : List Int := (List.range days.length).map (raisedAt p (slide p.hold false days))
def keptAt (p : Pol) (sl : List Int) (i : Nat) : Int := upTo (dns p) (sl.getD i 0)
def keptS (p : Pol) (days : List Int) : List Int := (List.range days.length).map (keptAt p (slide p.calm true days))

/-- the step that is decided behind the first k days -/
def decN (up kp : List Int) : Nat → Int
  | 0 => 0
  | k + 1 => max (up.getD k 0) (min (kp.getD k 0) (decN up kp k))
def decL (up kp : List Int) (n : Nat) : List Int := (List.range n).map fun k => decN up kp (k + 1)
theorem decL_succ (up kp : List Int) (n : Nat) : decL up kp (n + 1) = decL up kp n ++ [decN up kp (n + 1)] := by simp [decL, List.range_succ]
def decidedS (p : Pol) (days : List Int) : List Int := decL (raisedS p days) (keptS p days) days.length
/-- the step in force on each day -/
def forceS (p : Pol) (days : List Int) : List Int := (slide (p.notice + 1) false (List.replicate p.notice.toNat 0 ++ decidedS p days)).drop p.notice.toNat

theorem raisedS_length (p : Pol) (days : List Int) : (raisedS p days).length = days.length := by simp [raisedS]
theorem keptS_length (p : Pol) (days : List Int) : (keptS p days).length = days.length := by simp [keptS]
theorem decidedS_length (p : Pol) (days : List Int) : (decidedS p days).length = days.length := by simp [decidedS, decL]
theorem forceS_length (p : Pol) (days : List Int) : (forceS p days).length = days.length := by
  simp [forceS, slide_length, decidedS_length]

end Go.Proofs.Ytfmhlnfcbbpfeaa.Sp
