/- Plain law of RestrictShown: what days show is decided; a witness is there just if a step is decided. -/
import Derived.Test.YtfmhlnfcbbpfeaaPlain
import Derived.Test.YtfmhlnfcbbpfeaaWitness
namespace Go.Proofs.Ytfmhlnfcbbpfeaa
open Sp

theorem raised_ge {p : Pol} {days : List Int} (hh : 1 ≤ p.hold) {j z : Nat} (hj : j < p.steps.length) (hz : z < days.length) (hz' : p.hold ≤ (z : Int) + 1) (h : ∀ i : Nat, i ≤ z → (z : Int) + 1 - p.hold ≤ i → (stp p j).up ≤ days.getD i 0) : (j : Int) ≤ (raisedS p days).getD z 0 := by
  rw [raised_get p days hz, if_neg (by omega)]
  refine upTo_ge (by rw [ups_length]; exact hj) ?_
  rw [ups_get hj]
  exact le_slide hh days hz h
theorem raised_why {p : Pol} {days : List Int} (hc : checkS p = 0) {j z : Nat} (hj0 : 0 < j) (hj : j < p.steps.length) (hz : z < days.length) (h : (j : Int) ≤ (raisedS p days).getD z 0) : p.hold ≤ (z : Int) + 1 ∧ ∀ i : Nat, i ≤ z → (z : Int) + 1 - p.hold ≤ i → (stp p j).up ≤ days.getD i 0 := by
  have ck := check_ok hc
  rw [raised_get p days hz] at h
  have h0 : (stp p 0).up = 0 := by unfold stp; rw [check_first hc]
  by_cases hs : (z : Int) + 1 < p.hold
  · rw [if_pos hs] at h
    exfalso
    rcases upTo_is (ups p) 0 with e | ⟨i, h1, h2, h3⟩
    · omega
    · rw [ups_length] at h1
      rw [ups_get h1] at h3
      have := stp_grow hc (i := 0) (j := i) (by omega) h1
      have := this.2.2.2.2 (by omega)
      omega
  · rw [if_neg hs] at h
    refine ⟨by omega, fun i hi hi' => ?_⟩
    rcases upTo_is (ups p) ((slide p.hold false days).getD z 0) with e | ⟨y, h1, h2, h3⟩
    · omega
    · rw [ups_length] at h1
      rw [ups_get h1] at h3
      have := (stp_grow hc (i := j) (j := y) (by omega) h1).2.2.1
      have := slide_least ck.2.2.1 days hz hi hi'
      omega

theorem dec_ge {p : Pol} {days : List Int} {j : Int} {z : Nat} (h : j ≤ (raisedS p days).getD z 0) : ∀ {d : Nat}, z ≤ d → d < days.length → (∀ n : Nat, z < n → n ≤ d → j ≤ (keptS p days).getD n 0) → j ≤ (decidedS p days).getD d 0
  | 0, hz, hd, hk => by
    obtain rfl : z = 0 := by omega
    rw [dec_get p days hd, decN_succ]; omega
  | d + 1, hz, hd, hk => by
    rw [dec_get p days hd, decN_succ]
    by_cases e : z = d + 1
    · subst e; omega
    · have h1 := dec_ge h (d := d) (by omega) (by omega) (fun n h1 h2 => hk n h1 (by omega))
      rw [dec_get p days (by omega)] at h1
      have h2 := hk (d + 1) (by omega) (by omega)
      omega
theorem decN_why (up kp : List Int) {s : Int} (hs : 0 < s) : ∀ {k : Nat}, s ≤ decN up kp (k + 1) → ∃ h, h ≤ k ∧ s ≤ up.getD h 0 ∧ ∀ n : Nat, h < n → n ≤ k → s ≤ kp.getD n 0
  | k, h => by
    rw [decN_succ] at h
    by_cases h1 : s ≤ up.getD k 0
    · exact ⟨k, Nat.le_refl _, h1, fun n h2 h3 => absurd h2 (by omega)⟩
    · cases k with
      | zero => exfalso; simp only [decN] at h; omega
      | succ k =>
        obtain ⟨y, h2, h3, h4⟩ := decN_why up kp hs (k := k) (by omega)
        refine ⟨y, by omega, h3, fun n h5 h6 => ?_⟩
        by_cases e : n = k + 1
        · subst e; omega
        · exact h4 n h5 (by omega)

theorem shows_iff {p : Pol} {days kp : List Int} {d j a z : Nat} (hz : (z : Int) - a + 1 = p.hold) (hzd : z ≤ d) (haz : a ≤ z + 1) (had : a ≤ d) : showsS p days kp d j a z = true ↔ (∀ i : Nat, a ≤ i → i ≤ z → (stp p j).up ≤ days.getD i 0) ∧ ∀ n : Nat, z < n → n ≤ d → (j : Int) ≤ kp.getD n 0 := by
  unfold showsS
  rw [if_neg (by omega), Bool.and_eq_true, allGe_iff, allGe_iff]
  have n1 : ((a : Int)).toNat = a := by omega
  have n2 : ((z : Int) + 1 - (a : Int)).toNat = z + 1 - a := by omega
  have n3 : ((z : Int) + 1).toNat = z + 1 := by omega
  have n4 : ((d : Int) - (z : Int)).toNat = d - z := by omega
  have n5 : ((j : Int)).toNat = j := by omega
  rw [n1, n2, n3, n4, n5]
  constructor
  · rintro ⟨h1, h2⟩
    refine ⟨fun i h3 h4 => ?_, fun n h3 h4 => ?_⟩
    · have := h1 (i - a) (by omega)
      rwa [show a + (i - a) = i from by omega] at this
    · have := h2 (n - (z + 1)) (by omega)
      rwa [show z + 1 + (n - (z + 1)) = n from by omega] at this
  · rintro ⟨h1, h2⟩
    exact ⟨fun k hk => h1 _ (by omega) (by omega), fun k hk => h2 _ (by omega) (by omega)⟩
theorem shows_not {p : Pol} {days kp : List Int} {d j a z : Nat} (h : d < z) : showsS p days kp d j a z = false := by
  unfold showsS
  rw [if_pos (by omega)]
/-- what days show is decided -/
theorem shown_dec {p : Pol} {days : List Int} (hc : checkS p = 0) {d j a z : Nat} (hj : j < p.steps.length) (hd : d < days.length) (hz : (z : Int) - a + 1 = p.hold) (h : showsS p days (keptS p days) d j a z = true) :
    (j : Int) ≤ (decidedS p days).getD d 0 ∧ ∀ n : Nat, z ≤ n → n ≤ d → showsS p days (keptS p days) n j a z = true ∧ (j : Int) ≤ (decidedS p days).getD n 0 := by
  have ck := check_ok hc
  have hzd : z ≤ d := by
    rcases Nat.lt_or_ge d z with h1 | h1
    · rw [shows_not h1] at h; cases h
    · exact h1
  rw [shows_iff hz hzd (by omega) (by omega)] at h
  have hr : (j : Int) ≤ (raisedS p days).getD z 0 := raised_ge ck.2.2.1 hj (by omega) (by omega) fun i h1 h2 => h.1 i (by omega) h1
  have hn : ∀ n : Nat, z ≤ n → n ≤ d → (j : Int) ≤ (decidedS p days).getD n 0 := fun n h1 h2 => dec_ge hr h1 (by omega) fun y h3 h4 => h.2 y h3 (by omega)
  refine ⟨hn d hzd (Nat.le_refl _), fun n h1 h2 => ⟨?_, hn n h1 h2⟩⟩
  rw [shows_iff hz h1 (by omega) (by omega)]
  exact ⟨h.1, fun y h3 h4 => h.2 y h3 (by omega)⟩

theorem wit_spec {p : Pol} {days kp : List Int} {d s : Int} : ∀ {n : Nat} {w : Int × Int}, wit p days kp d s n = some w → showsS p days kp d s w.1 w.2 = true
  | 0, w, h => by cases h
  | n + 1, w, h => by
    unfold wit at h
    split at h
    · rename_i hs
      injection h with h
      subst h
      exact hs
    · exact wit_spec h
theorem wit_some {p : Pol} {days kp : List Int} {d s : Int} {z : Nat} (h : showsS p days kp d s ((z : Int) - p.hold + 1) z = true) : ∀ {n : Nat}, z < n → (wit p days kp d s n).isSome = true
  | 0, hz => absurd hz (by omega)
  | n + 1, hz => by
    unfold wit
    split
    · rfl
    · rename_i hs
      by_cases e : z = n
      · subst e; exact absurd h hs
      · exact wit_some h (by omega)
/-- a witness is there where a step is decided, and it shows the step -/
theorem witness_is {p : Pol} {days : List Int} (hc : checkS p = 0) {d j : Nat} (hj0 : 0 < j) (hj : j < p.steps.length) (hd : d < days.length) (h : (decidedS p days).getD d 0 = (j : Int)) :
    ∃ w, wit p days (keptS p days) d j (d + 1) = some w ∧ showsS p days (keptS p days) d j w.1 w.2 = true := by
  have ck := check_ok hc
  have h1 : (j : Int) ≤ decN (raisedS p days) (keptS p days) (d + 1) := by rw [← dec_get p days hd, h]; exact Int.le_refl _
  obtain ⟨z, h2, h3, h4⟩ := decN_why _ _ (by omega) h1
  obtain ⟨h5, h6⟩ := raised_why hc hj0 hj (by omega) h3
  obtain ⟨a, ha⟩ : ∃ a : Nat, (z : Int) - p.hold + 1 = a := ⟨((z : Int) - p.hold + 1).toNat, by omega⟩
  have hs : showsS p days (keptS p days) d j ((z : Int) - p.hold + 1) z = true := by
    rw [ha, shows_iff (by omega) h2 (by omega) (by omega)]
    exact ⟨fun i h7 h8 => h6 i h8 (by omega), h4⟩
  have h7 := wit_some hs (n := d + 1) (by omega)
  obtain ⟨w, hw⟩ := Option.isSome_iff_exists.1 h7
  exact ⟨w, hw, wit_spec hw⟩
end Go.Proofs.Ytfmhlnfcbbpfeaa
