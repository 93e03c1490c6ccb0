/- Plain law of RestrictReviewed; what Made makes is a right policy. -/
import Derived.Test.YtfmhlnfcbbpfeaaPlain
import Derived.Test.YtfmhlnfcbbpfeaaMade
import Derived.Test.YtfmhlnfcbbpfeaaPast
import Derived.Test.YtfmhlnfcbbpfeaaReview
namespace Go.Proofs.Ytfmhlnfcbbpfeaa
open Sp

theorem made_get {l : List Int} {n k : Nat} (h : k < n) : (madeSteps l n).getD k default = madeStp l k := by simp [madeSteps, h]
theorem made_check (l : List Int) {g : Int} (hg : 0 ≤ g ∧ g ≤ 60) : checkS { madeP l with grace := g } = 0 := by
  have d0 := draw_range (l := l) 0 (n := 5) (by decide)
  have d1 := draw_range (l := l) 1 (n := 6) (by decide)
  have d2 := draw_range (l := l) 2 (n := 5) (by decide)
  have d4 := draw_range (l := l) 4 (n := 6) (by decide)
  obtain ⟨n, hn⟩ : ∃ n, n = 1 + (draw l 4 6).toNat := ⟨_, rfl⟩
  have hs : (madeP l).steps = madeSteps l n := by rw [hn]; rfl
  have hn6 : 1 ≤ n ∧ n ≤ 6 := by omega
  refine check_yes (p := { madeP l with grace := g }) ?_ ?_ ?_
  · show within ((madeP l).steps.length : Int) 1 8 = true
    rw [hs, madeSteps_length]; simp [within]; omega
  · simp only [badGlob]
    rw [hs]
    have h0 : (madeSteps l n).headD default = ⟨0, 0, 0, 0⟩ := by
      have := made_get (l := l) (n := n) (k := 0) (by omega)
      cases h : madeSteps l n with
      | nil => have := madeSteps_length l n; rw [h] at this; simp at this; omega
      | cons a t => rw [h] at this; simpa [madeStp] using this
    have w1 : within (1 + draw l 0 5) 1 30 = true := by simp [within]; omega
    have w2 : within (1 + draw l 1 6) 1 30 = true := by simp [within]; omega
    have w3 : within (draw l 2 5) 0 30 = true := by simp [within]; omega
    have w4 : within g 0 60 = true := by simp [within]; omega
    rw [h0]
    simp only [madeP, w1, w2, w3, w4]
    rfl
  · show stepsOkN (madeP l).steps (madeP l).steps.length = true
    rw [hs, madeSteps_length]
    have all : ∀ k, k ≤ n → stepsOkN (madeSteps l n) k = true := by
      intro k
      induction k with
      | zero => intro _; rfl
      | succ k ih =>
        intro hk
        refine stepsOkN_succ (ih (by omega)) ?_
        have bd := madeStp_bd l k
        have e1 := made_get (l := l) (n := n) (k := k) (by omega)
        have gs : goodStep (madeStp l k) = true := by
          refine goodStep_mk ?_ ?_ ?_ ?_ <;> simp [within] <;> omega
        rcases Nat.eq_zero_or_pos k with h0 | h0
        · subst h0
          exact goodAt_zero e1.symm gs
        · obtain ⟨j, rfl⟩ : ∃ j, k = j + 1 := ⟨k - 1, by omega⟩
          have e2 := made_get (l := l) (n := n) (k := j) (by omega)
          have r0 := draw_range (l := l) (5 + 4 * j) (n := 3) (by decide)
          have r1 := draw_range (l := l) (5 + 4 * j + 1) (n := 8) (by decide)
          have r2 := draw_range (l := l) (5 + 4 * j + 2) (n := 120) (by decide)
          have r3 := draw_range (l := l) (5 + 4 * j + 3) (n := 100) (by decide)
          have bd' := madeStp_bd l j
          refine goodAt_succ (b := madeStp l j) e1.symm (by simpa using e2.symm) gs (goodPair_mk ?_ ?_ ?_ ?_) <;> simp only [madeStp, nextStp] <;> omega
    exact all n (Nat.le_refl _)
theorem made_check' (l : List Int) : checkS (madeP l) = 0 := by
  have d3 := draw_range (l := l) 3 (n := 6) (by decide)
  exact made_check l (g := (madeP l).grace) (by simp only [madeP]; omega)
theorem start_zero {p : Pol} {days : List Int} (h : checkS p = 0) (hd : DaysOk days) (hl : days.length ≤ 400) : startS p days = 0 := by
  unfold startS
  rw [if_neg (fun f => f h), if_neg (by omega), if_neg]
  intro ha
  rw [List.any_eq_true] at ha
  obtain ⟨x, hx, h2⟩ := ha
  have := hd x hx
  simp [within] at h2
  omega

theorem idxL_head {t : Bool} {l : List Bool} (h : l.getD 0 (!t) = t) : idxL t l = 0 := by
  cases l with
  | nil => cases t <;> simp at h
  | cons x l => simp at h; subst h; simp [idxL]
theorem idxL_ne {t : Bool} {l : List Bool} (h : l.getD 0 (!t) ≠ t) : idxL t l ≠ 0 := by
  cases l with
  | nil => simp [idxL]
  | cons x l =>
    simp at h
    rw [idxL, if_neg (fun e => h e.symm)]
    have := idxL_range t l
    split <;> omega
theorem idxL_take {t : Bool} {l : List Bool} {n : Nat} : idxL t (l.take n) = -1 ∨ idxL t (l.take n) = idxL t l := by
  induction l generalizing n with
  | nil => simp
  | cons x l ih =>
    cases n with
    | zero => left; rfl
    | succ n =>
      rw [List.take_succ_cons, idxL, idxL]
      by_cases hx : t = x
      · rw [if_pos hx, if_pos hx]; exact .inr rfl
      · rw [if_neg hx, if_neg hx]
        rcases ih (n := n) with h | h
        · left; rw [if_pos h]
        · rw [h]; exact .inr rfl

/-- the days of a passage -/
def cutL (l : List Bool) (a z : Nat) : List Bool := (l.drop a).take (z + 1 - a)
theorem cutL_first {l : List Bool} {a z : Nat} (h : a < l.length) (hz : a ≤ z) (d : Bool) : (cutL l a z).getD 0 d = l.getD a false := by
  have h1 : 0 < (cutL l a z).length := by simp [cutL]; omega
  rw [List.getD_eq_getElem?_getD, List.getElem?_eq_getElem h1, List.getD_eq_getElem?_getD, List.getElem?_eq_getElem h]
  simp [cutL]
theorem cutL_sub {l : List Bool} {a y z : Nat} (hy : y ≤ z) : cutL l a y = (cutL l a z).take (y + 1 - a) := by
  simp only [cutL, List.take_take]; congr 1; omega

theorem outcome_eq (p : Pol) (days : List Int) (v : Ves) (a z : Nat) : outcome p days ⟨v, a, z⟩ = if idxL false (cutL (passesS p days v) a z) = 0 then 1 else if 0 < idxL false (cutL (passesS p days v) a z) ∧ (a : Int) + idxL false (cutL (passesS p days v) a z) + p.grace < z then 2 else 0 := by
  have e : ((z : Int) + 1 - (a : Int)).toNat = z + 1 - a := by omega
  unfold outcome cutL
  simp only [e, Int.toNat_natCast]
theorem grace_passes (p : Pol) (days : List Int) (v : Ves) (g : Int) : passesS { p with grace := g } days v = passesS p days v := rfl

theorem law_not {p : Pol} {days : List Int} {v : Ves} {a z : Nat} (ha : a < days.length) (hz : a ≤ z) (h : (passesS p days v).getD a false = false) : outcome p days ⟨v, a, z⟩ = 1 := by
  rw [outcome_eq, if_pos]
  refine idxL_head ?_
  rw [cutL_first (by rw [passesS_length]; exact ha) hz, h]
theorem law_yes {p : Pol} {days : List Int} {v : Ves} {a z : Nat} (ha : a < days.length) (hz : a ≤ z) (h : (passesS p days v).getD a false = true) : outcome p days ⟨v, a, z⟩ ≠ 1 := by
  have : idxL false (cutL (passesS p days v) a z) ≠ 0 := by
    refine idxL_ne ?_
    rw [cutL_first (by rw [passesS_length]; exact ha) hz, h]; simp
  rw [outcome_eq, if_neg this]
  split <;> omega
theorem law_range (p : Pol) (days : List Int) (v : Ves) (a z : Nat) : outcome p days ⟨v, a, z⟩ = 0 ∨ outcome p days ⟨v, a, z⟩ = 1 ∨ outcome p days ⟨v, a, z⟩ = 2 := by
  rw [outcome_eq]
  split
  · exact .inr (.inl rfl)
  · split
    · exact .inr (.inr rfl)
    · exact .inl rfl
theorem law_one {p : Pol} {days : List Int} {v : Ves} {a : Nat} (ha : a < days.length) (h : (passesS p days v).getD a false = true) (hg : 0 ≤ p.grace) : outcome p days ⟨v, a, a⟩ = 0 := by
  have h1 := law_yes ha (Nat.le_refl a) h
  rcases law_range p days v a a with h2 | h2 | h2
  · exact h2
  · exact absurd h2 h1
  · exfalso
    rw [outcome_eq] at h2
    split at h2
    · omega
    · split at h2
      · omega
      · omega
theorem law_shorter {p : Pol} {days : List Int} {v : Ves} {a y z : Nat} (_ : a < days.length) (_ : a ≤ y) (hz : y ≤ z) (h : outcome p days ⟨v, a, z⟩ = 0) : outcome p days ⟨v, a, y⟩ = 0 := by
  rw [outcome_eq] at h ⊢
  rw [cutL_sub hz]
  obtain ⟨f, hf⟩ : ∃ f, f = idxL false (cutL (passesS p days v) a z) := ⟨_, rfl⟩
  rw [← hf] at h
  have hr := idxL_range false (cutL (passesS p days v) a z)
  rw [← hf] at hr
  rcases idxL_take (t := false) (l := cutL (passesS p days v) a z) (n := y + 1 - a) with e | e
  · rw [e]; simp
  · rw [e, ← hf]
    split at h
    · omega
    · rename_i h0
      split at h
      · omega
      · rename_i h1
        rw [if_neg h0, if_neg (by omega)]
theorem law_grace {p : Pol} {days : List Int} {v : Ves} {a z : Nat} {g : Int} (hg : p.grace ≤ g) (h : outcome p days ⟨v, a, z⟩ = 0) : outcome { p with grace := g } days ⟨v, a, z⟩ = 0 := by
  rw [outcome_eq] at h ⊢
  rw [grace_passes]
  split at h
  · omega
  · rename_i h0
    split at h
    · omega
    · rename_i h1
      rw [if_neg h0, if_neg (by simp only; omega)]
end Go.Proofs.Ytfmhlnfcbbpfeaa
