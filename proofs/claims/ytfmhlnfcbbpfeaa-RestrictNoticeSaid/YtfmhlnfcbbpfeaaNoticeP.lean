/- The plain law of RestrictNotice. No program is named here. -/
import Derived.Test.YtfmhlnfcbbpfeaaPlain
import Derived.Test.YtfmhlnfcbbpfeaaSeq
namespace Go.Proofs.Ytfmhlnfcbbpfeaa
open Sp

/-- what the inner loop of the law keeps: d: the day that comes next, m: the least number so far -/
structure LeastI (p : Pol) (days : List Int) (k : Nat) (d m : Int) : Prop where
  ge : (forceS p days).getD k 0 ≤ m
  le : m ≤ (decidedS p days).getD k 0
  day : ∀ j : Nat, (k : Int) - p.notice ≤ j → (j : Int) < d → m ≤ (decidedS p days).getD j 0
  neg : (k : Int) - p.notice < 0 → (k : Int) - p.notice < d → m ≤ 0
section
variable {p : Pol} {days : List Int} {k : Nat} {d m : Int}
theorem LeastI.start (hc : checkS p = 0) (hk : k < days.length) : LeastI p days k ((k : Int) - p.notice) ((decidedS p days).getD k 0) := by
  have ck := check_ok hc
  exact ⟨force_le ck.2.2.2.2.2.2.1 hk (Nat.le_refl _) (by omega), Int.le_refl _, fun j h1 h2 => absurd h1 (by omega), fun h1 h2 => absurd h2 (by omega)⟩
theorem LeastI.below (hc : checkS p = 0) (hk : k < days.length) (hd : (k : Int) - p.notice ≤ d) (h0 : d < 0) (h : LeastI p days k d m) : LeastI p days k (d + 1) 0 :=
  ⟨force_early hk (by omega), (dec_step hc days k).1, fun j h1 h2 => absurd h2 (by omega), fun _ _ => Int.le_refl _⟩
theorem LeastI.next (hc : checkS p = 0) (hk : k < days.length) {j : Nat} (hd : (k : Int) - p.notice ≤ j) (hj : j < k) (h : LeastI p days k j m) : LeastI p days k ((j : Int) + 1) (min m ((decidedS p days).getD j 0)) := by
  have ck := check_ok hc
  have h1 := force_le ck.2.2.2.2.2.2.1 hk (Nat.le_of_lt hj) hd
  refine ⟨by have := h.ge; omega, by have := h.le; omega, fun i h2 h3 => ?_, fun h2 h3 => ?_⟩
  · by_cases e : i = j
    · subst e; omega
    · have := h.day i h2 (by omega); omega
  · have := h.neg h2 (by omega); omega
theorem LeastI.end_ (hc : checkS p = 0) (hk : k < days.length) (hd : (k : Int) ≤ d) (h : LeastI p days k d m) : m = (forceS p days).getD k 0 := by
  have ck := check_ok hc
  refine Int.le_antisymm (le_force ck.2.2.2.2.2.2.1 hk (fun h1 => h.neg (by omega) (by omega)) fun j h1 h2 => ?_) h.ge
  by_cases e : j = k
  · subst e; exact h.le
  · exact h.day j h2 (by omega)
end

theorem befN_nonneg {p : Pol} (hc : checkS p = 0) (days : List Int) (k : Nat) : 0 ≤ befN (forceS p days) k := by
  cases k with
  | zero => exact Int.le_refl _
  | succ k => exact (force_step hc days k).1
/-- a greater step has had its notice, and was not decided on the day before -/
theorem notice_up {p : Pol} {days : List Int} {k : Nat} (hc : checkS p = 0) (hk : k < days.length) (h : befN (forceS p days) k < (forceS p days).getD k 0) :
    p.notice ≤ k ∧ (p.notice < k → (decidedS p days).getD (k - p.notice.toNat - 1) 0 < (forceS p days).getD k 0) := by
  have ck := check_ok hc
  have h0 := befN_nonneg hc days k
  have hn : p.notice ≤ k := by
    rcases Int.lt_or_le (k : Int) p.notice with h1 | h1
    · have := force_early hk h1; omega
    · exact h1
  refine ⟨hn, fun hlt => ?_⟩
  rcases Int.lt_or_le ((decidedS p days).getD (k - p.notice.toNat - 1) 0) ((forceS p days).getD k 0) with h1 | h1
  · exact h1
  · exfalso
    obtain ⟨j, rfl⟩ : ∃ j, k = j + 1 := ⟨k - 1, by have := ck.2.2.2.2.2.2.1; omega⟩
    have h2 : (forceS p days).getD (j + 1) 0 ≤ (forceS p days).getD j 0 := by
      refine le_force ck.2.2.2.2.2.2.1 (by omega) (fun h3 => by have := ck.2.2.2.2.2.2.1; omega) fun i h3 h4 => ?_
      by_cases e : i = j + 1 - p.notice.toNat - 1
      · subst e; exact h1
      · exact force_le ck.2.2.2.2.2.2.1 hk (by omega) (by omega)
    have h5 : befN (forceS p days) (j + 1) = (forceS p days).getD j 0 := rfl
    rw [h5] at h
    omega

/-- the order that stands at the place of a day on which the step changes -/
theorem ord_at (f : List Int) (no : Int) {k n : Nat} (hk : k < n) (h : f.getD k 0 ≠ befN f k) : (ordN f no n)[(ordN f no k).length]? = some ⟨if befN f k < f.getD k 0 then (k : Int) - no else k, k, f.getD k 0⟩ ∧ (ordN f no k).length < (ordN f no n).length ∧ (ordN f no (k + 1)).length = (ordN f no k).length + 1 := by
  have e : ordN f no (k + 1) = ordN f no k ++ [⟨if befN f k < f.getD k 0 then (k : Int) - no else k, k, f.getD k 0⟩] := by rw [ordN, if_neg h]
  obtain ⟨s, hs⟩ := ordN_prefix f no (j := k + 1) (k := n) hk
  rw [← hs, e]
  refine ⟨by simp, by simp, by simp⟩
theorem ord_same (f : List Int) (no : Int) {k : Nat} (h : f.getD k 0 = befN f k) : ordN f no (k + 1) = ordN f no k ∧ befN f (k + 1) = befN f k := by
  refine ⟨by rw [ordN, if_pos h], h⟩
end Go.Proofs.Ytfmhlnfcbbpfeaa
