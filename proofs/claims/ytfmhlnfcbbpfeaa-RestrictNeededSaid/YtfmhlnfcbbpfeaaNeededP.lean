/- The plain law of RestrictNeeded. No program is named here. -/
import Derived.Test.YtfmhlnfcbbpfeaaReviewedP
import Derived.Test.YtfmhlnfcbbpfeaaNeed
import Derived.Test.YtfmhlnfcbbpfeaaWindows
namespace Go.Proofs.Ytfmhlnfcbbpfeaa
open Sp

/-- what the windows of the first n days are -/
structure WinOk (l : List Bool) (n : Nat) (L : List (Int × Int)) : Prop where
  rng : ∀ s ∈ L, 0 ≤ s.1 ∧ s.1 ≤ s.2 ∧ s.2 < n
  gap : L.Pairwise (fun s t => s.2 + 1 < t.1)
  may : ∀ s ∈ L, ∀ d : Nat, s.1 ≤ d → (d : Int) ≤ s.2 → l.getD d false = true
  all : ∀ d : Nat, d < n → l.getD d false = true → ∃ s ∈ L, s.1 ≤ d ∧ (d : Int) ≤ s.2
theorem winN_ok (l : List Bool) : ∀ n, WinOk l n (winN l n)
  | 0 => ⟨by simp [winN], by simp [winN], by simp [winN], fun d h => absurd h (by omega)⟩
  | n + 1 => by
    have ih := winN_ok l n
    unfold winN
    by_cases hn : l.getD n false = true
    · rw [if_pos hn]
      rcases List.eq_nil_or_concat (winN l n) with h0 | ⟨L', s, h0⟩
      · rw [h0] at ih ⊢
        have e : joinS [] (n : Int) = [((n : Int), (n : Int))] := rfl
        rw [e]
        refine ⟨fun s hs => ?_, by simp, fun s hs d h1 h2 => ?_, fun d h1 h2 => ?_⟩
        · rw [List.mem_singleton.1 hs]; simp; omega
        · rw [List.mem_singleton.1 hs] at h1 h2
          obtain rfl : d = n := by simp at h1 h2; omega
          exact hn
        · by_cases hd : d = n
          · subst hd; exact ⟨_, List.mem_singleton.2 rfl, by simp, by simp⟩
          · obtain ⟨s, hs, _⟩ := ih.all d (by omega) h2
            simp at hs
      · rw [List.concat_eq_append] at h0
        rw [h0] at ih ⊢
        have hsm : s ∈ L' ++ [s] := by simp
        have hs := ih.rng s hsm
        obtain ⟨g1, _, g3⟩ := List.pairwise_append.1 ih.gap
        by_cases hl : s.2 = (n : Int) - 1
        · have e : joinS (L' ++ [s]) (n : Int) = L' ++ [(s.1, (n : Int))] := by
            unfold joinS
            rw [List.getLast?_append]
            simp [hl]
          rw [e]
          refine ⟨fun t ht => ?_, List.pairwise_append.2 ⟨g1, by simp, fun a ha b hb => ?_⟩, fun t ht d h1 h2 => ?_, fun d h1 h2 => ?_⟩
          · rcases List.mem_append.1 ht with h | h
            · have := ih.rng t (List.mem_append.2 (.inl h)); omega
            · rw [List.mem_singleton.1 h]; simp only; omega
          · rw [List.mem_singleton.1 hb]; exact g3 a ha s (by simp)
          · rcases List.mem_append.1 ht with h | h
            · exact ih.may t (List.mem_append.2 (.inl h)) d h1 h2
            · rw [List.mem_singleton.1 h] at h1 h2
              simp only at h1 h2
              by_cases hd : d = n
              · subst hd; exact hn
              · exact ih.may s hsm d h1 (by omega)
          · by_cases hd : d = n
            · subst hd; exact ⟨_, List.mem_append.2 (.inr (List.mem_singleton.2 rfl)), by simp only; omega, by simp⟩
            · obtain ⟨t, ht, h3, h4⟩ := ih.all d (by omega) h2
              rcases List.mem_append.1 ht with h | h
              · exact ⟨t, List.mem_append.2 (.inl h), h3, h4⟩
              · rw [List.mem_singleton.1 h] at h3 h4
                exact ⟨_, List.mem_append.2 (.inr (List.mem_singleton.2 rfl)), h3, by simp only; omega⟩
        · have e : joinS (L' ++ [s]) (n : Int) = (L' ++ [s]) ++ [((n : Int), (n : Int))] := by
            unfold joinS
            rw [List.getLast?_append]
            simp [hl]
          rw [e]
          refine ⟨fun t ht => ?_, List.pairwise_append.2 ⟨ih.gap, by simp, fun a ha b hb => ?_⟩, fun t ht d h1 h2 => ?_, fun d h1 h2 => ?_⟩
          · rcases List.mem_append.1 ht with h | h
            · have := ih.rng t h; omega
            · rw [List.mem_singleton.1 h]; simp only; omega
          · rw [List.mem_singleton.1 hb]
            simp only
            rcases List.mem_append.1 ha with h | h
            · have h5 := g3 a h s (by simp)
              omega
            · rw [List.mem_singleton.1 h]; omega
          · rcases List.mem_append.1 ht with h | h
            · exact ih.may t h d h1 h2
            · rw [List.mem_singleton.1 h] at h1 h2
              obtain rfl : d = n := by simp at h1 h2; omega
              exact hn
          · by_cases hd : d = n
            · subst hd; exact ⟨_, List.mem_append.2 (.inr (List.mem_singleton.2 rfl)), by simp, by simp⟩
            · obtain ⟨t, ht, h3, h4⟩ := ih.all d (by omega) h2
              exact ⟨t, List.mem_append.2 (.inl ht), h3, h4⟩
    · rw [if_neg hn]
      refine ⟨fun s hs => by have := ih.rng s hs; omega, ih.gap, ih.may, fun d h1 h2 => ?_⟩
      by_cases hd : d = n
      · subst hd; exact absurd h2 hn
      · exact ih.all d (by omega) h2
section
variable {l : List Bool} {n : Nat} {L : List (Int × Int)}
theorem WinOk.lt (h : WinOk l n L) {i j : Nat} (hij : i < j) (hj : j < L.length) : (L[i]'(by omega)).2 + 1 < L[j].1 := List.pairwise_iff_getElem.1 h.gap i j (by omega) hj hij
/-- a day is in a window just if it is in the first one that does not end ahead of it -/
theorem WinOk.day (h : WinOk l n L) {d at_ : Nat} (hd : d < n) (hb : ∀ i (hi : i < L.length), i < at_ → L[i].2 < d) (ha : ∀ hi : at_ < L.length, (d : Int) ≤ L[at_].2) :
    l.getD d false = decide (∃ hi : at_ < L.length, L[at_].1 ≤ d) := by
  rw [Bool.eq_iff_iff]
  simp only [decide_eq_true_eq]
  constructor
  · intro hm
    obtain ⟨s, hs, h1, h2⟩ := h.all d hd hm
    obtain ⟨i, hi, rfl⟩ := List.mem_iff_getElem.1 hs
    have h3 : ¬ i < at_ := fun h4 => by have := hb i hi h4; omega
    by_cases h4 : i = at_
    · subst h4; exact ⟨hi, h1⟩
    · exfalso
      have h5 := h.lt (i := at_) (j := i) (by omega) hi
      have h6 := ha (by omega)
      omega
  · rintro ⟨hi, h1⟩
    exact h.may _ (List.getElem_mem hi) d h1 (ha hi)
end

/-- the first day from a on, among the first k -/
def fstN (l : List Bool) (a : Nat) : Nat → Int
  | 0 => -1
  | k + 1 => if l.getD k false = true ∧ a ≤ k ∧ fstN l a k < 0 then (k : Int) else fstN l a k
theorem fstN_range (l : List Bool) (a : Nat) : ∀ k, -1 ≤ fstN l a k ∧ fstN l a k < k
  | 0 => ⟨Int.le_refl _, by simp [fstN]⟩
  | k + 1 => by
    have := fstN_range l a k
    unfold fstN
    split <;> omega
theorem fstN_none {l : List Bool} {a : Nat} : ∀ {k : Nat}, (∀ j, a ≤ j → j < k → l.getD j false = false) → fstN l a k = -1
  | 0, _ => rfl
  | k + 1, h => by
    have ih := fstN_none (l := l) (a := a) (k := k) (fun j h1 h2 => h j h1 (by omega))
    unfold fstN
    rw [if_neg, ih]
    rintro ⟨h1, h2, _⟩
    rw [h k h2 (by omega)] at h1; cases h1
theorem fstN_some {l : List Bool} {a m : Nat} (ha : a ≤ m) (hm : l.getD m false = true) (hb : ∀ j, a ≤ j → j < m → l.getD j false = false) : ∀ {k : Nat}, m < k → fstN l a k = m
  | 0, h => absurd h (by omega)
  | k + 1, h => by
    by_cases e : m = k
    · subst e
      unfold fstN
      rw [if_pos ⟨hm, ha, by rw [fstN_none hb]; decide⟩]
    · have ih := fstN_some ha hm hb (k := k) (by omega)
      unfold fstN
      rw [if_neg, ih]
      rintro ⟨_, _, h3⟩
      rw [ih] at h3; omega
theorem idxL_is (t : Bool) : ∀ (l : List Bool), (idxL t l = -1 ∧ ∀ x ∈ l, t ≠ x) ∨ ∃ i : Nat, i < l.length ∧ idxL t l = i ∧ l.getD i (!t) = t ∧ ∀ j, j < i → l.getD j (!t) ≠ t
  | [] => .inl ⟨rfl, by simp⟩
  | x :: l => by
    by_cases h : t = x
    · refine .inr ⟨0, by simp, by rw [idxL, if_pos h]; rfl, by simp [h], fun j hj => absurd hj (by omega)⟩
    · rcases idxL_is t l with ⟨h1, h2⟩ | ⟨i, h1, h2, h3, h4⟩
      · refine .inl ⟨by rw [idxL, if_neg h, if_pos h1], fun y hy => ?_⟩
        rcases List.mem_cons.1 hy with rfl | hy
        · exact h
        · exact h2 y hy
      · refine .inr ⟨i + 1, by simpa using h1, by rw [idxL, if_neg h, if_neg (by omega), h2]; rfl, by simpa using h3, fun j hj => ?_⟩
        cases j with
        | zero => simpa using fun e => h e.symm
        | succ j => simpa using h4 j (by omega)
/-- the first day by both ways -/
theorem fst_first {l : List Bool} {a n : Nat} (hl : l.length = n) : (idxL true (l.drop a) < 0 ∧ fstN l a n = -1) ∨ (0 ≤ idxL true (l.drop a) ∧ fstN l a n = (a : Int) + idxL true (l.drop a)) := by
  have hg : ∀ j, (l.drop a).getD j false = l.getD (a + j) false := fun j => by simp [List.getD_eq_getElem?_getD]
  rcases idxL_is true (l.drop a) with ⟨h1, h2⟩ | ⟨i, h1, h2, h3, h4⟩
  · refine .inl ⟨by omega, fstN_none fun j h3 h4 => ?_⟩
    obtain ⟨i, rfl⟩ : ∃ i, j = a + i := ⟨j - a, by omega⟩
    rw [← hg]
    have hi : i < (l.drop a).length := by rw [List.length_drop]; omega
    rw [List.getD_eq_getElem?_getD, List.getElem?_eq_getElem hi, Option.getD_some]
    have := h2 _ (List.getElem_mem hi)
    simpa using this
  · refine .inr ⟨by omega, ?_⟩
    rw [h2]
    have h5 : i < n - a := by rw [List.length_drop] at h1; omega
    have := fstN_some (l := l) (a := a) (m := a + i) (by omega) (by rw [← hg]; exact h3) (fun j h6 h7 => by
      obtain ⟨x, rfl⟩ : ∃ x, j = a + x := ⟨j - a, by omega⟩
      rw [← hg]
      have := h4 x (by omega)
      simpa using this) (k := n) (by omega)
    rw [this]; simp

/-- all of k days from a day on -/
def allB (l : List Bool) (a : Nat) : Nat → Bool
  | 0 => true
  | k + 1 => allB l a k && l.getD (a + k) false
theorem allB_true {l : List Bool} {a : Nat} : ∀ {k : Nat}, (∀ j, j < k → l.getD (a + j) false = true) → allB l a k = true
  | 0, _ => rfl
  | k + 1, h => by
    unfold allB
    rw [allB_true (fun j hj => h j (by omega)), h k (by omega)]; rfl
theorem allB_false {l : List Bool} {a j : Nat} (hj : l.getD (a + j) false = false) : ∀ {k : Nat}, j < k → allB l a k = false
  | 0, h => absurd h (by omega)
  | k + 1, h => by
    unfold allB
    by_cases e : j = k
    · subst e; rw [hj, Bool.and_false]
    · rw [allB_false hj (by omega : j < k), Bool.false_and]

section
variable {p : Pol} {days : List Int} {a z : Nat}
theorem cut_get {j : Nat} (hj : j < z + 1 - a) : (cutI p days a z).getD j 0 = (forceS p days).getD (a + j) 0 := by
  simp only [cutI, List.getD_eq_getElem?_getD, List.getElem?_take, if_pos hj, List.getElem?_drop]
/-- the greatest step of some days -/
theorem max_cut (ha : a ≤ z) (hz : z < days.length) : (∀ d, a ≤ d → d ≤ z → (forceS p days).getD d 0 ≤ maxL (cutI p days a z)) ∧ ∃ d, a ≤ d ∧ d ≤ z ∧ maxL (cutI p days a z) = (forceS p days).getD d 0 := by
  have hL := cutI_length p days ha hz
  constructor
  · intro d h1 h2
    have := mxTo_ge (cutI p days a z) (k := (cutI p days a z).length - 1) (j := d - a) (by rw [hL]; omega)
    rw [cut_get (by omega), show a + (d - a) = d from by omega] at this
    exact this
  · obtain ⟨j, h1, h2⟩ := mxTo_is (cutI p days a z) ((cutI p days a z).length - 1)
    rw [hL] at h1
    refine ⟨a + j, by omega, by omega, ?_⟩
    rw [maxL, h2, cut_get (by omega)]
theorem need_stp (hs : startS p days = 0) (ha : a ≤ z) (hz : z < days.length) : ∃ m : Nat, m < p.steps.length ∧ maxL (cutI p days a z) = m ∧ needE p days a z = 0 ∧ needV p days a z = ⟨(stp p m).cls, (stp p m).ton, false⟩ := by
  obtain ⟨hck, _, _⟩ := start_ok hs
  obtain ⟨d, h1, h2, h3⟩ := (max_cut (p := p) ha hz).2
  have h4 := force_step hck days d
  rw [← h3] at h4
  obtain ⟨m, hm⟩ := Int.eq_ofNat_of_zero_le h4.1
  have h5 := need_in (a := (a : Int)) (z := (z : Int)) hs (by simp [within]; omega)
  rw [Int.toNat_natCast, Int.toNat_natCast, hm, Int.toNat_natCast] at h5
  exact ⟨m, by have := h4.2; omega, hm, h5.1, h5.2⟩
/-- she may on all days -/
theorem need_all (hs : startS p days = 0) (ha : a ≤ z) (hz : z < days.length) : allB (passesS p days (needV p days a z)) a (z + 1 - a) = true := by
  obtain ⟨hck, _, _⟩ := start_ok hs
  obtain ⟨m, hm, hx, _, hv⟩ := need_stp hs ha hz
  rw [hv]
  refine allB_true fun j hj => ?_
  have h1 := (max_cut (p := p) ha hz).1 (a + j) (by omega) (by omega)
  rw [passes_get p days _ (by omega)]
  have h2 := force_step hck days (a + j)
  have h3 := stp_grow hck (i := ((forceS p days).getD (a + j) 0).toNat) (j := m) (by have := h2.1; omega) hm
  simp only [fulfils, Bool.and_eq_true, decide_eq_true_eq, Bool.false_eq_true, if_false]; omega
/-- she who has less of something may not on all days -/
theorem need_less (hs : startS p days = 0) (ha : a ≤ z) (hz : z < days.length) {v : Ves} (he : v.esc = false) (hv : v.cls < (needV p days a z).cls ∨ v.ton < (needV p days a z).ton) : allB (passesS p days v) a (z + 1 - a) = false := by
  obtain ⟨m, hm, hx, _, hn⟩ := need_stp hs ha hz
  rw [hn] at hv
  simp only at hv
  obtain ⟨d, h1, h2, h3⟩ := (max_cut (p := p) ha hz).2
  refine allB_false (j := d - a) ?_ (by omega)
  rw [show a + (d - a) = d from by omega, passes_get p days _ (by omega), ← h3, hx, Int.toNat_natCast]
  simp [fulfils, he]; omega
theorem need_right (hs : startS p days = 0) (ha : a ≤ z) (hz : z < days.length) : 0 ≤ (needV p days a z).cls ∧ (needV p days a z).cls ≤ 6 ∧ 0 ≤ (needV p days a z).ton ∧ (needV p days a z).ton ≤ 500000 ∧ (needV p days a z).esc = false := by
  obtain ⟨hck, _, _⟩ := start_ok hs
  obtain ⟨m, hm, _, _, hv⟩ := need_stp hs ha hz
  have := stp_good hck hm
  rw [hv]
  simp only
  exact ⟨by omega, by omega, by omega, by omega, trivial⟩
end
/-- a passage inside of days on all of which she may -/
theorem win_outcome {p : Pol} {days : List Int} {v : Ves} {a z : Nat} (hz : z < days.length) (h : ∀ d, a ≤ d → d ≤ z → (passesS p days v).getD d false = true) : outcome p days ⟨v, a, z⟩ = 0 := by
  have h1 : idxL false (cutL (passesS p days v) a z) = -1 := by
    refine idxL_none fun x hx => ?_
    obtain ⟨i, hi, rfl⟩ := List.mem_iff_getElem.1 hx
    have hi2 : i < z + 1 - a ∧ a + i < days.length := by
      simp only [cutL, List.length_take, List.length_drop, passesS_length] at hi; omega
    have := h (a + i) (by omega) (by omega)
    rw [List.getD_eq_getElem?_getD, List.getElem?_eq_getElem (by rw [passesS_length]; exact hi2.2), Option.getD_some] at this
    simp only [cutL, List.getElem_take, List.getElem_drop]
    rw [this]; decide
  rw [outcome_eq, h1]
  simp
end Go.Proofs.Ytfmhlnfcbbpfeaa
