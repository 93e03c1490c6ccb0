/- What the functions of layer 8 compute, further: the errors. -/
import Derived.Test.YtfmhlnfcbbpfeaaSpecB
namespace Go.Proofs.Ytfmhlnfcbbpfeaa.Sp

def goodStep (s : Stp) : Bool := within s.cls 0 6 && within s.ton 0 500000 && within s.up 0 2000 && within s.dn 0 s.up
def goodPair (b s : Stp) : Bool := !(decide (s.cls < b.cls) || decide (s.ton < b.ton) || decide (s.up ≤ b.up) || decide (s.dn < b.dn))
def goodAt (l : List Stp) (i : Nat) : Bool := goodStep (l.getD i default) && (i == 0 || goodPair (l.getD (i - 1) default) (l.getD i default))
def stepsOkN (l : List Stp) : Nat → Bool
  | 0 => true
  | k + 1 => stepsOkN l k && goodAt l k
theorem stepsOkN_false {l : List Stp} {k : Nat} (hg : goodAt l k = false) : ∀ {n}, k < n → stepsOkN l n = false
  | 0, h => absurd h (by omega)
  | n + 1, h => by
    unfold stepsOkN
    by_cases hk : k = n
    · subst hk; rw [hg, Bool.and_false]
    · rw [stepsOkN_false hg (by omega : k < n), Bool.false_and]
theorem bnot_false {b : Bool} (h : (!b) = false) : b = true := by simpa using h
theorem bnot_true {b : Bool} (h : (!b) = true) : b = false := by simpa using h
theorem goodStep_mk {s : Stp} (h1 : within s.cls 0 6 = true) (h2 : within s.ton 0 500000 = true) (h3 : within s.up 0 2000 = true) (h4 : within s.dn 0 s.up = true) : goodStep s = true := by simp [goodStep, h1, h2, h3, h4]
theorem goodPair_mk {b s : Stp} (h1 : b.cls ≤ s.cls) (h2 : b.ton ≤ s.ton) (h3 : b.up < s.up) (h4 : b.dn ≤ s.dn) : goodPair b s = true := by simp [goodPair]; omega
theorem goodAt_zero {l : List Stp} {s : Stp} (hs : s = l.getD 0 default) (h : goodStep s = true) : goodAt l 0 = true := by simp only [goodAt]; rw [← hs, h]; rfl
theorem goodAt_succ {l : List Stp} {k : Nat} {s b : Stp} (hs : s = l.getD k default) (hb : b = l.getD (k - 1) default) (h : goodStep s = true) (hp : goodPair b s = true) : goodAt l k = true := by simp only [goodAt]; rw [← hs, ← hb, h, hp]; simp
theorem stepsOkN_succ {l : List Stp} {k : Nat} (h : stepsOkN l k = true) (hg : goodAt l k = true) : stepsOkN l (k + 1) = true := by unfold stepsOkN; rw [h, hg]; rfl
theorem goodAt_bad {l : List Stp} {k : Nat} {s : Stp} (hs : s = l.getD k default) (h : goodStep s = false) : goodAt l k = false := by simp only [goodAt]; rw [← hs, h]; rfl
theorem goodAt_badp {l : List Stp} {k : Nat} {s b : Stp} (hk : k ≠ 0) (hs : s = l.getD k default) (hb : b = l.getD (k - 1) default) (h : goodPair b s = false) : goodAt l k = false := by simp only [goodAt]; rw [← hs, ← hb, h]; simp [hk]
def badGlob (p : Pol) : Bool := !within p.hold 1 30 || !within p.calm 1 30 || !within p.notice 0 30 || !within p.grace 0 60 || !decide (p.steps.headD default = ⟨0, 0, 0, 0⟩)
/-- the error of a policy -/
def checkS (p : Pol) : Int := if !within p.steps.length 1 8 then 2 else if badGlob p then 90 else if stepsOkN p.steps p.steps.length then 0 else 90
theorem check_bad {p : Pol} (hw : within p.steps.length 1 8 = true) (hb : badGlob p = true) : checkS p = 90 := by simp [checkS, hw, hb]
theorem check_not {p : Pol} (hw : within p.steps.length 1 8 = true) {k : Nat} (hk : k < p.steps.length) (hg : goodAt p.steps k = false) : checkS p = 90 := by
  simp only [checkS, hw, stepsOkN_false hg hk]; simp
theorem check_yes {p : Pol} (hw : within p.steps.length 1 8 = true) (hb : badGlob p = false) (hg : stepsOkN p.steps p.steps.length = true) : checkS p = 0 := by simp [checkS, hw, hb, hg]
/-- the error of a policy and a history -/
def startS (p : Pol) (days : List Int) : Int := if checkS p ≠ 0 then checkS p else if (400 : Int) < days.length then 2 else if days.any (fun n => !within n 0 2000) then 6 else 0

theorem check_ok {p : Pol} (h : checkS p = 0) : p.steps ≠ [] ∧ p.steps.length ≤ 8 ∧ 1 ≤ p.hold ∧ p.hold ≤ 30 ∧ 1 ≤ p.calm ∧ p.calm ≤ 30 ∧ 0 ≤ p.notice ∧ p.notice ≤ 30 ∧ 0 ≤ p.grace ∧ p.grace ≤ 60 := by
  unfold checkS at h
  split at h
  · cases h
  · rename_i h1
    split at h
    · cases h
    · rename_i h2
      simp [badGlob, within] at h1 h2
      refine ⟨by intro e; rw [e] at h1; simp at h1, by omega, by omega, by omega, by omega, by omega, by omega, by omega, by omega, by omega⟩
theorem start_ok {p : Pol} {days : List Int} (h : startS p days = 0) : checkS p = 0 ∧ days.length ≤ 400 ∧ ∀ n ∈ days, 0 ≤ n ∧ n ≤ 2000 := by
  unfold startS at h
  split at h
  · rename_i h1; exact absurd h h1
  · rename_i h1
    split at h
    · cases h
    · rename_i h2
      split at h
      · cases h
      · rename_i h3
        refine ⟨by simpa using h1, by omega, fun n hn => ?_⟩
        simp only [List.any_eq_true, not_exists, not_and] at h3
        have := h3 n hn
        simp [within] at this
        omega
end Go.Proofs.Ytfmhlnfcbbpfeaa.Sp
