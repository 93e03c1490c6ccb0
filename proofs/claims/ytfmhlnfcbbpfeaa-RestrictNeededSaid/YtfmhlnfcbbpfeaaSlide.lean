/- What a window yields: the least (or greatest) of the last numbers. No program is named here. -/
import Derived.Test.YtfmhlnfcbbpfeaaSpecB
namespace Go.Proofs.Ytfmhlnfcbbpfeaa.Sp

/-- a comes first, or is as good as b -/
def lead (gr : Bool) (a b : Int) : Prop := if gr then b ≤ a else a ≤ b
theorem lead_trans {gr : Bool} {a b c : Int} (h : lead gr a b) (k : lead gr b c) : lead gr a c := by
  unfold lead at *; cases gr <;> simp at * <;> omega
theorem lead_refl (gr : Bool) (a : Int) : lead gr a a := by unfold lead; cases gr <;> simp
theorem drop_iff {gr : Bool} {v x : Int} : (((v == x) || (decide (x < v) != gr)) = true) ↔ lead gr x v := by
  unfold lead; cases gr <;> simp <;> omega
theorem drop_not {gr : Bool} {v x : Int} (h : ¬ (((v == x) || (decide (x < v) != gr)) = true)) : lead gr v x := by
  unfold lead; cases gr <;> simp at * <;> omega

theorem popLen_le (gr : Bool) (x : Int) (V : List Int) : ∀ k, popLen gr x V k ≤ k
  | 0 => Nat.le_refl _
  | k + 1 => by
    unfold popLen; split
    · have := popLen_le gr x V k; omega
    · omega
theorem popLen_dropped (gr : Bool) (x : Int) (V : List Int) : ∀ k j, popLen gr x V k ≤ j → j < k → lead gr x (V.getD j 0)
  | 0, j, _, h => absurd h (by omega)
  | k + 1, j, h, hj => by
    unfold popLen at h
    split at h
    · rename_i hc
      by_cases e : j = k
      · subst e; exact drop_iff.1 hc
      · exact popLen_dropped gr x V k j h (by omega)
    · omega
theorem popLen_last (gr : Bool) (x : Int) (V : List Int) : ∀ k m, popLen gr x V k = m + 1 → lead gr (V.getD m 0) x
  | 0, m, h => by simp [popLen] at h
  | k + 1, m, h => by
    unfold popLen at h
    split at h
    · exact popLen_last gr x V k m h
    · rename_i hc
      obtain rfl : k = m := by omega
      exact drop_not hc

/-- what a window keeps behind n numbers -/
structure WInv (wide : Int) (gr : Bool) (xs : List Int) (n : Nat) (D : List (Int × Int)) : Prop where
  at_ : ∀ e ∈ D, ∃ i : Nat, e.2 = i ∧ i < n ∧ (n : Int) - wide ≤ i ∧ e.1 = xs.getD i 0
  sorted : D.Pairwise fun a b => a.2 < b.2 ∧ lead gr a.1 b.1
  all : ∀ j : Nat, j < n → (n : Int) - wide ≤ j → ∃ e ∈ D, (j : Int) ≤ e.2 ∧ lead gr e.1 (xs.getD j 0)

theorem wInv_push {wide : Int} {gr : Bool} {xs : List Int} {n : Nat} {D : List (Int × Int)} (hw : 1 ≤ wide) (h : WInv wide gr xs n D) : WInv wide gr xs (n + 1) (pushD wide n gr D (xs.getD n 0)) := by
  obtain ⟨x, hx⟩ : ∃ x, x = xs.getD n 0 := ⟨_, rfl⟩
  rw [← hx]
  obtain ⟨m, hm⟩ : ∃ m, m = popLen gr x (D.map (·.1)) D.length := ⟨_, rfl⟩
  have hml : m ≤ D.length := by rw [hm]; exact popLen_le _ _ _ _
  have hV : ∀ i, (hi : i < D.length) → (D.map (·.1)).getD i 0 = (D[i]).1 := fun i hi => by simp [hi]
  -- before the first one is struck
  obtain ⟨D1, hD1⟩ : ∃ D1, D1 = D.take m ++ [(x, (n : Int))] := ⟨_, rfl⟩
  have hlead : ∀ e ∈ D.take m, lead gr e.1 x := by
    intro e he
    obtain ⟨i, hi, rfl⟩ := List.mem_iff_getElem.1 he
    have hi' : i < m ∧ i < D.length := by rw [List.length_take] at hi; omega
    rw [List.getElem_take]
    obtain ⟨m', rfl⟩ : ∃ m', m = m' + 1 := ⟨m - 1, by omega⟩
    have h1 := popLen_last gr x (D.map (·.1)) D.length m' hm.symm
    rw [hV m' (by omega)] at h1
    by_cases e : i = m'
    · subst e; exact h1
    · exact lead_trans ((List.pairwise_iff_getElem.1 h.sorted) i m' hi'.2 (by omega) (by omega)).2 h1
  have hs1 : D1.Pairwise fun a b => a.2 < b.2 ∧ lead gr a.1 b.1 := by
    rw [hD1, List.pairwise_append]
    refine ⟨h.sorted.sublist (List.take_sublist _ _), by simp, fun a ha b hb => ?_⟩
    obtain rfl : b = (x, (n : Int)) := by simpa using hb
    obtain ⟨i, h1, h2, _⟩ := h.at_ a (List.mem_of_mem_take ha)
    exact ⟨by rw [h1]; exact Int.ofNat_lt.2 h2, hlead a ha⟩
  have ha1 : ∀ e ∈ D1, ∃ i : Nat, e.2 = i ∧ i < n + 1 ∧ (n : Int) - wide ≤ i ∧ e.1 = xs.getD i 0 := by
    intro e he
    rw [hD1] at he
    rcases List.mem_append.1 he with he | he
    · obtain ⟨i, h1, h2, h3, h4⟩ := h.at_ e (List.mem_of_mem_take he)
      exact ⟨i, h1, by omega, h3, h4⟩
    · obtain rfl : e = (x, (n : Int)) := by simpa using he
      exact ⟨n, rfl, by omega, by omega, hx⟩
  have hl1 : ∀ j : Nat, j < n + 1 → (n : Int) + 1 - wide ≤ j → ∃ e ∈ D1, (j : Int) ≤ e.2 ∧ lead gr e.1 (xs.getD j 0) := by
    intro j hj hw'
    by_cases e : j = n
    · subst e
      exact ⟨(x, (j : Int)), by rw [hD1]; simp, Int.le_refl _, by rw [hx]; exact lead_refl _ _⟩
    · obtain ⟨e, he, h1, h2⟩ := h.all j (by omega) (by omega)
      obtain ⟨i, hi, rfl⟩ := List.mem_iff_getElem.1 he
      by_cases him : i < m
      · refine ⟨D[i], ?_, h1, h2⟩
        rw [hD1]
        refine List.mem_append.2 (.inl ?_)
        exact List.mem_iff_getElem.2 ⟨i, by rw [List.length_take]; omega, by simp⟩
      · refine ⟨(x, (n : Int)), by rw [hD1]; simp, by simp; omega, lead_trans ?_ h2⟩
        have := popLen_dropped gr x (D.map (·.1)) D.length i (by omega) hi
        rwa [hV i hi] at this
  have hne : D1 ≠ [] := by rw [hD1]; simp
  have hp : pushD wide n gr D x = if (D1.headD (0, 0)).2 ≤ (n : Int) - wide then D1.tail else D1 := by
    rw [hD1, hm]; rfl
  rw [hp]
  obtain ⟨a, t, hat⟩ := List.exists_cons_of_ne_nil hne
  have hp2 : (if (D1.headD (0, 0)).2 ≤ (n : Int) - wide then D1.tail else D1) = if a.2 ≤ (n : Int) - wide then t else a :: t := by rw [hat]; rfl
  rw [hp2]
  rw [hat] at hs1 ha1 hl1
  by_cases hc : a.2 ≤ (n : Int) - wide
  · rw [if_pos hc]
    refine ⟨fun e he => ?_, (List.pairwise_cons.1 hs1).2, fun j hj hw' => ?_⟩
    · obtain ⟨i, h1, h2, h3, h4⟩ := ha1 e (by simp [he])
      have h5 := ((List.pairwise_cons.1 hs1).1 e he).1
      obtain ⟨i', g1, g2, g3, g4⟩ := ha1 a (by simp)
      exact ⟨i, h1, h2, by rw [h1, g1] at h5; omega, h4⟩
    · obtain ⟨e, he, h1, h2⟩ := hl1 j hj (by omega)
      rcases List.mem_cons.1 he with rfl | he
      · omega
      · exact ⟨e, he, h1, h2⟩
  · rw [if_neg hc]
    refine ⟨fun e he => ?_, hs1, fun j hj hw' => hl1 j hj (by omega)⟩
    obtain ⟨i, h1, h2, h3, h4⟩ := ha1 e he
    refine ⟨i, h1, h2, ?_, h4⟩
    rcases List.mem_cons.1 he with rfl | he
    · rw [h1] at hc; omega
    · have h5 := ((List.pairwise_cons.1 hs1).1 e he).1
      rw [h1] at h5; omega

theorem wInv_dq {wide : Int} (hw : 1 ≤ wide) (gr : Bool) (xs : List Int) : ∀ n, WInv wide gr xs n (dq wide gr xs n)
  | 0 => ⟨by simp [dq], by simp [dq], fun j h => absurd h (by omega)⟩
  | n + 1 => wInv_push hw (wInv_dq hw gr xs n)

theorem slide_get (wide : Int) (gr : Bool) (xs : List Int) {k : Nat} (hk : k < xs.length) : (slide wide gr xs).getD k 0 = headV (dq wide gr xs (k + 1)) := by
  simp [slide, slideN, hk]

theorem slide_is {wide : Int} (hw : 1 ≤ wide) (gr : Bool) (xs : List Int) {k : Nat} (hk : k < xs.length) : ∃ j : Nat, j ≤ k ∧ (k : Int) + 1 - wide ≤ j ∧ (slide wide gr xs).getD k 0 = xs.getD j 0 := by
  have h := wInv_dq hw gr xs (k + 1)
  rw [slide_get wide gr xs hk]
  obtain ⟨e, he, _⟩ := h.all k (by omega) (by omega)
  obtain ⟨a, t, hat⟩ := List.exists_cons_of_ne_nil (List.ne_nil_of_mem he)
  obtain ⟨i, h1, h2, h3, h4⟩ := h.at_ a (by rw [hat]; simp)
  exact ⟨i, by omega, by omega, by rw [hat]; exact h4⟩
theorem slide_leads {wide : Int} (hw : 1 ≤ wide) (gr : Bool) (xs : List Int) {k : Nat} (hk : k < xs.length) {j : Nat} (hj : j ≤ k) (hj' : (k : Int) + 1 - wide ≤ j) : lead gr ((slide wide gr xs).getD k 0) (xs.getD j 0) := by
  have h := wInv_dq hw gr xs (k + 1)
  rw [slide_get wide gr xs hk]
  obtain ⟨e, he, _, h2⟩ := h.all j (by omega) (by omega)
  obtain ⟨a, t, hat⟩ := List.exists_cons_of_ne_nil (List.ne_nil_of_mem he)
  have hs := h.sorted
  rw [hat] at he hs ⊢
  refine lead_trans ?_ h2
  rcases List.mem_cons.1 he with rfl | he
  · exact lead_refl _ _
  · exact ((List.pairwise_cons.1 hs).1 e he).2
/-- the least of the last numbers -/
theorem slide_least {wide : Int} (hw : 1 ≤ wide) (xs : List Int) {k : Nat} (hk : k < xs.length) {j : Nat} (hj : j ≤ k) (hj' : (k : Int) + 1 - wide ≤ j) : (slide wide false xs).getD k 0 ≤ xs.getD j 0 := by
  simpa [lead] using slide_leads hw false xs hk hj hj'
theorem slide_most {wide : Int} (hw : 1 ≤ wide) (xs : List Int) {k : Nat} (hk : k < xs.length) {j : Nat} (hj : j ≤ k) (hj' : (k : Int) + 1 - wide ≤ j) : xs.getD j 0 ≤ (slide wide true xs).getD k 0 := by
  simpa [lead] using slide_leads hw true xs hk hj hj'
theorem le_slide {wide : Int} (hw : 1 ≤ wide) (xs : List Int) {k : Nat} (hk : k < xs.length) {m : Int} (h : ∀ j : Nat, j ≤ k → (k : Int) + 1 - wide ≤ j → m ≤ xs.getD j 0) : m ≤ (slide wide false xs).getD k 0 := by
  obtain ⟨j, h1, h2, h3⟩ := slide_is hw false xs hk
  rw [h3]; exact h j h1 h2
theorem slide_le {wide : Int} (hw : 1 ≤ wide) (xs : List Int) {k : Nat} (hk : k < xs.length) {m : Int} (h : ∀ j : Nat, j ≤ k → (k : Int) + 1 - wide ≤ j → xs.getD j 0 ≤ m) : (slide wide true xs).getD k 0 ≤ m := by
  obtain ⟨j, h1, h2, h3⟩ := slide_is hw true xs hk
  rw [h3]; exact h j h1 h2
end Go.Proofs.Ytfmhlnfcbbpfeaa.Sp
