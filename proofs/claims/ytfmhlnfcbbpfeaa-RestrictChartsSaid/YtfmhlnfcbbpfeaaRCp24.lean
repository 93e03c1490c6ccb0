/- What a window yields: the least (or greatest) of the last numbers. No program is named here. -/
import Derived.Test.YtfmhlnfcbbpfeaaRCp0
import Derived.Test.YtfmhlnfcbbpfeaaRCp1
set_option linter.unusedVariables false
namespace Go.Proofs.Ytfmhlnfcbbpfeaa.Sp

/-- a comes first, or is as good as b -/
def lead (gr : Bool) (a b : Int) : Prop := if gr then b ≤ a else a ≤ b
theorem lead_trans {gr : Bool} {a b c : Int} (h : lead gr a b) (k : lead gr b c) : lead gr a c := by
  unfold lead at *; cases gr <;> simp at * <;> omega
theorem lead_refl (gr : Bool) (a : Int) : lead gr a a := by unfold lead; cases gr <;> simp
theorem drop_iff {gr : Bool} {v x : Int} : (((v == x) || (decide (x < v) != gr)) = true) ↔ lead gr x v := by
  unfold lead; cases gr <;> simp <;> omega
theorem drop_not {gr : Bool} {v x : Int} (h : ¬ (((v == x) || (decide (x < v) != gr)) = true)) : lead gr v x := by
  unfold lead; cases gr <;> simp at * <;> omega

theorem popLen_le (gr : Bool) (x : Int) (V : List Int) : ∀ k, popLen gr x V k ≤ k
  | 0 => Nat.le_refl _
  | k + 1 => by
    unfold popLen; split
    · have := popLen_le gr x V k; omega
    · omega
theorem popLen_dropped (gr : Bool) (x : Int) (V : List Int) : ∀ k j, popLen gr x V k ≤ j → j < k → lead gr x (V.getD j 0)
  | 0, j, _, h => absurd h (by omega)
  | k + 1, j, h, hj => by
    unfold popLen at h
    split at h
    · rename_i hc
      by_cases e : j = k
      · subst e; exact drop_iff.1 hc
      · exact popLen_dropped gr x V k j h (by omega)
    · omega
theorem popLen_last (gr : Bool) (x : Int) (V : List Int) : ∀ k m, popLen gr x V k = m + 1 → lead gr (V.getD m 0) x
  | 0, m, h => by simp [popLen] at h
  | k + 1, m, h => by
    unfold popLen at h
    split at h
    · exact popLen_last gr x V k m h
    · rename_i hc
      obtain rfl : k = m := by omega
      exact drop_not hc

/-- what a window keeps behind n numbers -/
structure WInv (wide : Int) (gr : Bool) (xs : List Int) (n : Nat) (D : List (Int × Int)) : Prop where
  at_ : ∀ e ∈ D, ∃ i : Nat, e.2 = i ∧ i < n ∧ (n : Int) - wide ≤ i ∧ e.1 = xs.getD i 0
  sorted : D.Pairwise fun a b => a.2 < b.2 ∧ lead gr a.1 b.1
  all : ∀ j : Nat, j < n → (n : Int) - wide ≤ j → ∃ e ∈ D, (j : Int) ≤ e.2 ∧ lead gr e.1 (xs.getD j 0)

theorem wInv_push {wide : Int} {gr : Bool} {xs : List Int} {n : Nat} {D : List (Int × Int)} (hw : 1 ≤ wide) (h : WInv wide gr xs n D) : WInv wide gr xs (n + 1) (pushD wide n gr D (xs.getD n 0)) := by
  obtain ⟨x, hx⟩ : ∃ x, x = xs.getD n 0 := ⟨_, rfl⟩
  rw [← hx]
  obtain ⟨m, hm⟩ : ∃ m, m = popLen gr x (D.map (·.1)) D.length := ⟨_, rfl⟩
  have hml : m ≤ D.length := by rw [hm]; exact popLen_le _ _ _ _
  have hV : ∀ i, (hi : i < D.length) → (D.map (·.1)).getD i 0 = (D[i]).1 := fun i hi => by simp [hi]
  -- before the first one is struck
  obtain ⟨D1, hD1⟩ : ∃ D1, D1 = D.take m ++ [(x, (n : Int))] := ⟨_, rfl⟩
  have hlead : ∀ e ∈ D.take m, lead gr e.1 x := by
    intro e he
    obtain ⟨i, hi, rfl⟩ := List.mem_iff_getElem.1 he
    have hi' : i < m ∧ i < D.length := by rw [List.length_take] at hi; omega
    rw [List.getElem_take]
    obtain ⟨m', rfl⟩ : ∃ m', m = m' + 1 := ⟨m - 1, by omega⟩
    have h1 := popLen_last gr x (D.map (·.1)) D.length m' hm.symm
    rw [hV m' (by omega)] at h1
    by_cases e : i = m'
    · subst e; exact h1
    · exact lead_trans ((List.pairwise_iff_getElem.1 h.sorted) i m' hi'.2 (by omega) (by omega)).2 h1
  have hs1 : D1.Pairwise fun a b => a.2 < b.2 ∧ lead gr a.1 b.1 := by
    rw [hD1, List.pairwise_append]
    refine ⟨h.sorted.sublist (List.take_sublist _ _), by simp, fun a ha b hb => ?_⟩
    obtain rfl : b = (x, (n : Int)) := by simpa using hb
    obtain ⟨i, h1, h2, _⟩ := h.at_ a (List.mem_of_mem_take ha)
    exact ⟨by rw [h1]; exact Int.ofNat_lt.2 h2, hlead a ha⟩
  have ha1 : ∀ e ∈ D1, ∃ i : Nat, e.2 = i ∧ i < n + 1 ∧ (n : Int) - wide ≤ i ∧ e.1 = xs.getD i 0 := by
    intro e he
    rw [hD1] at he
    rcases List.mem_append.1 he with he | he
    · obtain ⟨i, h1, h2, h3, h4⟩ := h.at_ e (List.mem_of_mem_take he)
      exact ⟨i, h1, by omega, h3, h4⟩
    · obtain rfl : e = (x, (n : Int)) := by simpa using he
      exact ⟨n, rfl, by omega, by omega, hx⟩
  have hl1 : ∀ j : Nat, j < n + 1 → (n : Int) + 1 - wide ≤ j → ∃ e ∈ D1, (j : Int) ≤ e.2 ∧ lead gr e.1 (xs.getD j 0) := by
    intro j hj hw'
    by_cases e : j = n
    · subst e
      exact ⟨(x, (j : Int)), by rw [hD1]; simp, Int.le_refl _, by rw [hx]; exact lead_refl _ _⟩
    · obtain ⟨e, he, h1, h2⟩ := h.all j (by omega) (by omega)
      obtain ⟨i, hi, rfl⟩ := List.mem_iff_getElem.1 he
      by_cases him : i < m
      · refine ⟨D[i], ?_, h1, h2⟩
        rw [hD1]
        refine List.mem_append.2 (.inl ?_)
        exact List.mem_iff_getElem.2 ⟨i, by rw [List.length_take]; omega, by simp⟩
      · refine ⟨(x, (n : Int)), by rw [hD1]; simp, by simp; omega, lead_trans ?_ h2⟩
        have := popLen_dropped gr x (D.map (·.1)) D.length i (by omega) hi
        rwa [hV i hi] at this
  have hne : D1 ≠ [] := by rw [hD1]; simp
  have hp : pushD wide n gr D x = if (D1.headD (0, 0)).2 ≤ (n : Int) - wide then D1.tail else D1 := by
    rw [hD1, hm]; rfl
  rw [hp]
  obtain ⟨a, t, hat⟩ := List.exists_cons_of_ne_nil hne
  have hp2 : (if (D1.headD (0, 0)).2 ≤ (n : Int) - wide then D1.tail else D1) = if a.2 ≤ (n : Int) - wide then t else a :: t := by rw [hat]; rfl
  rw [hp2]
  rw [hat] at hs1 ha1 hl1
  by_cases hc : a.2 ≤ (n : Int) - wide
  · rw [if_pos hc]
    refine ⟨fun e he => ?_, (List.pairwise_cons.1 hs1).2, fun j hj hw' => ?_⟩
    · obtain ⟨i, h1, h2, h3, h4⟩ := ha1 e (by simp [he])
      have h5 := ((List.pairwise_cons.1 hs1).1 e he).1
      obtain ⟨i', g1, g2, g3, g4⟩ := ha1 a (by simp)
      exact ⟨i, h1, h2, by rw [h1, g1] at h5; omega, h4⟩
    · obtain ⟨e, he, h1, h2⟩ := hl1 j hj (by omega)
      rcases List.mem_cons.1 he with rfl | he
      · omega
      · exact ⟨e, he, h1, h2⟩
  · rw [if_neg hc]
    refine ⟨fun e he => ?_, hs1, fun j hj hw' => hl1 j hj (by omega)⟩
    obtain ⟨i, h1, h2, h3, h4⟩ := ha1 e he
    refine ⟨i, h1, h2, ?_, h4⟩
    rcases List.mem_cons.1 he with rfl | he
    · rw [h1] at hc; omega
    · have h5 := ((List.pairwise_cons.1 hs1).1 e he).1
      rw [h1] at h5; omega

theorem wInv_dq {wide : Int} (hw : 1 ≤ wide) (gr : Bool) (xs : List Int) : ∀ n, WInv wide gr xs n (dq wide gr xs n)
  | 0 => ⟨by simp [dq], by simp [dq], fun j h => absurd h (by omega)⟩
  | n + 1 => wInv_push hw (wInv_dq hw gr xs n)

theorem slide_get (wide : Int) (gr : Bool) (xs : List Int) {k : Nat} (hk : k < xs.length) : (slide wide gr xs).getD k 0 = headV (dq wide gr xs (k + 1)) := by
  simp [slide, slideN, hk]

theorem slide_is {wide : Int} (hw : 1 ≤ wide) (gr : Bool) (xs : List Int) {k : Nat} (hk : k < xs.length) : ∃ j : Nat, j ≤ k ∧ (k : Int) + 1 - wide ≤ j ∧ (slide wide gr xs).getD k 0 = xs.getD j 0 := by
  have h := wInv_dq hw gr xs (k + 1)
  rw [slide_get wide gr xs hk]
  obtain ⟨e, he, _⟩ := h.all k (by omega) (by omega)
  obtain ⟨a, t, hat⟩ := List.exists_cons_of_ne_nil (List.ne_nil_of_mem he)
  obtain ⟨i, h1, h2, h3, h4⟩ := h.at_ a (by rw [hat]; simp)
  exact ⟨i, by omega, by omega, by rw [hat]; exact h4⟩
theorem slide_leads {wide : Int} (hw : 1 ≤ wide) (gr : Bool) (xs : List Int) {k : Nat} (hk : k < xs.length) {j : Nat} (hj : j ≤ k) (hj' : (k : Int) + 1 - wide ≤ j) : lead gr ((slide wide gr xs).getD k 0) (xs.getD j 0) := by
  have h := wInv_dq hw gr xs (k + 1)
  rw [slide_get wide gr xs hk]
  obtain ⟨e, he, _, h2⟩ := h.all j (by omega) (by omega)
  obtain ⟨a, t, hat⟩ := List.exists_cons_of_ne_nil (List.ne_nil_of_mem he)
  have hs := h.sorted
  rw [hat] at he hs ⊢
  refine lead_trans ?_ h2
  rcases List.mem_cons.1 he with rfl | he
  · exact lead_refl _ _
  · exact ((List.pairwise_cons.1 hs).1 e he).2
/-- the least of the last numbers -/
theorem slide_least {wide : Int} (hw : 1 ≤ wide) (xs : List Int) {k : Nat} (hk : k < xs.length) {j : Nat} (hj : j ≤ k) (hj' : (k : Int) + 1 - wide ≤ j) : (slide wide false xs).getD k 0 ≤ xs.getD j 0 := by
  simpa [lead] using slide_leads hw false xs hk hj hj'
theorem slide_most {wide : Int} (hw : 1 ≤ wide) (xs : List Int) {k : Nat} (hk : k < xs.length) {j : Nat} (hj : j ≤ k) (hj' : (k : Int) + 1 - wide ≤ j) : xs.getD j 0 ≤ (slide wide true xs).getD k 0 := by
  simpa [lead] using slide_leads hw true xs hk hj hj'
theorem le_slide {wide : Int} (hw : 1 ≤ wide) (xs : List Int) {k : Nat} (hk : k < xs.length) {m : Int} (h : ∀ j : Nat, j ≤ k → (k : Int) + 1 - wide ≤ j → m ≤ xs.getD j 0) : m ≤ (slide wide false xs).getD k 0 := by
  obtain ⟨j, h1, h2, h3⟩ := slide_is hw false xs hk
  rw [h3]; exact h j h1 h2
theorem slide_le {wide : Int} (hw : 1 ≤ wide) (xs : List Int) {k : Nat} (hk : k < xs.length) {m : Int} (h : ∀ j : Nat, j ≤ k → (k : Int) + 1 - wide ≤ j → xs.getD j 0 ≤ m) : (slide wide true xs).getD k 0 ≤ m := by
  obtain ⟨j, h1, h2, h3⟩ := slide_is hw true xs hk
  rw [h3]; exact h j h1 h2
end Go.Proofs.Ytfmhlnfcbbpfeaa.Sp
/- Plain laws of layer 8: steps grow; the greatest step; what is raised, kept, decided, in force. -/
namespace Go.Proofs.Ytfmhlnfcbbpfeaa.Sp

theorem stepsOkN_all {l : List Stp} : ∀ {n}, stepsOkN l n = true → ∀ k, k < n → goodAt l k = true
  | 0, _, k, h => absurd h (by omega)
  | n + 1, h, k, hk => by
    unfold stepsOkN at h
    rw [Bool.and_eq_true] at h
    by_cases e : k = n
    · subst e; exact h.2
    · exact stepsOkN_all h.1 k (by omega)

theorem check_steps {p : Pol} (h : checkS p = 0) : ∀ k, k < p.steps.length → goodAt p.steps k = true := by
  unfold checkS at h
  split at h
  · cases h
  · split at h
    · cases h
    · split at h
      · rename_i h3; exact stepsOkN_all h3
      · cases h
theorem check_first {p : Pol} (h : checkS p = 0) : p.steps.getD 0 default = ⟨0, 0, 0, 0⟩ := by
  unfold checkS at h
  split at h
  · cases h
  · split at h
    · cases h
    · rename_i h2
      simp [badGlob] at h2
      have := h2.2
      cases hp : p.steps with
      | nil => rw [hp] at this; simp at this; exact this
      | cons a l => rw [hp] at this; simpa using this

/-- the step i of a policy -/
def stp (p : Pol) (i : Nat) : Stp := p.steps.getD i default
theorem stp_good {p : Pol} (h : checkS p = 0) {i : Nat} (hi : i < p.steps.length) : 0 ≤ (stp p i).cls ∧ (stp p i).cls ≤ 6 ∧ 0 ≤ (stp p i).ton ∧ (stp p i).ton ≤ 500000 ∧ 0 ≤ (stp p i).up ∧ (stp p i).up ≤ 2000 ∧ 0 ≤ (stp p i).dn ∧ (stp p i).dn ≤ (stp p i).up := by
  have := check_steps h i hi
  simp only [goodAt, Bool.and_eq_true] at this
  have h1 := this.1
  simp [goodStep, within] at h1
  unfold stp
  simp only [List.getD_eq_getElem?_getD]
  omega
theorem stp_next {p : Pol} (h : checkS p = 0) {i : Nat} (hi : i + 1 < p.steps.length) : (stp p i).cls ≤ (stp p (i + 1)).cls ∧ (stp p i).ton ≤ (stp p (i + 1)).ton ∧ (stp p i).up < (stp p (i + 1)).up ∧ (stp p i).dn ≤ (stp p (i + 1)).dn := by
  have := check_steps h (i + 1) hi
  simp only [goodAt, Bool.and_eq_true] at this
  have h1 := this.2
  have e : ((i + 1 : Nat) == 0) = false := by simp
  rw [e, Bool.false_or, Nat.add_sub_cancel] at h1
  simp [goodPair] at h1
  unfold stp
  simp only [List.getD_eq_getElem?_getD]
  omega
theorem stp_grow {p : Pol} (h : checkS p = 0) {i : Nat} : ∀ {j : Nat}, i ≤ j → j < p.steps.length → (stp p i).cls ≤ (stp p j).cls ∧ (stp p i).ton ≤ (stp p j).ton ∧ (stp p i).up ≤ (stp p j).up ∧ (stp p i).dn ≤ (stp p j).dn ∧ (i < j → (stp p i).up < (stp p j).up)
  | 0, hij, hj => by obtain rfl : i = 0 := by omega
                     exact ⟨Int.le_refl _, Int.le_refl _, Int.le_refl _, Int.le_refl _, fun h => absurd h (by omega)⟩
  | j + 1, hij, hj => by
    by_cases e : i = j + 1
    · subst e; exact ⟨Int.le_refl _, Int.le_refl _, Int.le_refl _, Int.le_refl _, fun h => absurd h (by omega)⟩
    · have h1 := stp_grow h (i := i) (j := j) (by omega) (by omega)
      have h2 := stp_next h hj
      omega

theorem ups_get {p : Pol} {i : Nat} (hi : i < p.steps.length) : (ups p).getD i 0 = (stp p i).up := by simp [ups, stp, hi]
theorem dns_get {p : Pol} {i : Nat} (hi : i < p.steps.length) : (dns p).getD i 0 = (stp p i).dn := by simp [dns, stp, hi]
theorem ups_length (p : Pol) : (ups p).length = p.steps.length := by simp [ups]
theorem dns_length (p : Pol) : (dns p).length = p.steps.length := by simp [dns]

theorem upToN_ge {l : List Int} {sev : Int} {j : Nat} (h : l.getD j 0 ≤ sev) : ∀ {n}, j < n → (j : Int) ≤ upToN l sev n
  | 0, hj => absurd hj (by omega)
  | n + 1, hj => by
    unfold upToN
    split
    · omega
    · rename_i hc
      have : j ≠ n := fun e => hc (e ▸ h)
      exact upToN_ge h (by omega)
theorem upTo_ge {l : List Int} {sev : Int} {j : Nat} (hj : j < l.length) (h : l.getD j 0 ≤ sev) : (j : Int) ≤ upTo l sev := upToN_ge h hj
theorem upToN_is (l : List Int) (sev : Int) : ∀ n, upToN l sev n = 0 ∨ ∃ j, j < n ∧ upToN l sev n = (j : Int) ∧ l.getD j 0 ≤ sev
  | 0 => .inl rfl
  | n + 1 => by
    unfold upToN
    split
    · rename_i hc; exact .inr ⟨n, by omega, rfl, hc⟩
    · rcases upToN_is l sev n with h | ⟨j, h1, h2, h3⟩
      · exact .inl h
      · exact .inr ⟨j, by omega, h2, h3⟩
theorem upTo_is (l : List Int) (sev : Int) : upTo l sev = 0 ∨ ∃ j, j < l.length ∧ upTo l sev = (j : Int) ∧ l.getD j 0 ≤ sev := upToN_is l sev _
theorem upTo_nonneg (l : List Int) (sev : Int) : 0 ≤ upTo l sev := (upToN_range l sev _).1
theorem upTo_mono (l : List Int) {a b : Int} (h : a ≤ b) : upTo l a ≤ upTo l b := by
  rcases upTo_is l a with e | ⟨j, h1, h2, h3⟩
  · rw [e]; exact upTo_nonneg _ _
  · rw [h2]; exact upTo_ge h1 (by omega)

/-- nowhere less -/
def LeL (a b : List Int) : Prop := a.length = b.length ∧ ∀ k : Nat, k < a.length → a.getD k 0 ≤ b.getD k 0
theorem slide_mono {wide : Int} (hw : 1 ≤ wide) (gr : Bool) {a b : List Int} (h : LeL a b) : LeL (slide wide gr a) (slide wide gr b) := by
  refine ⟨by rw [slide_length, slide_length, h.1], fun k hk => ?_⟩
  rw [slide_length] at hk
  cases gr
  · exact le_slide hw b (by rw [← h.1]; exact hk) fun j h1 h2 => Int.le_trans (slide_least hw a hk h1 h2) (h.2 j (by omega))
  · exact slide_le hw a hk fun j h1 h2 => Int.le_trans (h.2 j (by omega)) (slide_most hw b (by rw [← h.1]; exact hk) h1 h2)

theorem raised_get (p : Pol) (days : List Int) {k : Nat} (hk : k < days.length) : (raisedS p days).getD k 0 = upTo (ups p) (if (k : Int) + 1 < p.hold then 0 else (slide p.hold false days).getD k 0) := by
  simp [raisedS, raisedAt, hk]
theorem kept_get (p : Pol) (days : List Int) {k : Nat} (hk : k < days.length) : (keptS p days).getD k 0 = upTo (dns p) ((slide p.calm true days).getD k 0) := by
  simp [keptS, keptAt, hk]
theorem dec_get (p : Pol) (days : List Int) {k : Nat} (hk : k < days.length) : (decidedS p days).getD k 0 = decN (raisedS p days) (keptS p days) (k + 1) := by
  simp [decidedS, decL, hk]

theorem decN_succ (up kp : List Int) (k : Nat) : decN up kp (k + 1) = max (up.getD k 0) (min (kp.getD k 0) (decN up kp k)) := rfl
theorem decN_mono {u u' v v' : List Int} (hu : LeL u u') (hv : LeL v v') : ∀ n, n ≤ u.length → n ≤ v.length → decN u v n ≤ decN u' v' n
  | 0, _, _ => Int.le_refl _
  | n + 1, h1, h2 => by
    have := decN_mono hu hv n (by omega) (by omega)
    have h3 := hu.2 n (by omega)
    have h4 := hv.2 n (by omega)
    rw [decN_succ, decN_succ]
    omega

theorem raised_mono {p : Pol} (hw : 1 ≤ p.hold) {a b : List Int} (h : LeL a b) : LeL (raisedS p a) (raisedS p b) := by
  refine ⟨by rw [raisedS_length, raisedS_length, h.1], fun k hk => ?_⟩
  rw [raisedS_length] at hk
  rw [raised_get p a hk, raised_get p b (by rw [← h.1]; exact hk)]
  refine upTo_mono _ ?_
  have := (slide_mono hw false h).2 k (by rw [slide_length]; exact hk)
  split <;> omega
theorem kept_mono {p : Pol} (hw : 1 ≤ p.calm) {a b : List Int} (h : LeL a b) : LeL (keptS p a) (keptS p b) := by
  refine ⟨by rw [keptS_length, keptS_length, h.1], fun k hk => ?_⟩
  rw [keptS_length] at hk
  rw [kept_get p a hk, kept_get p b (by rw [← h.1]; exact hk)]
  exact upTo_mono _ ((slide_mono hw true h).2 k (by rw [slide_length]; exact hk))
theorem dec_mono {p : Pol} (hw : 1 ≤ p.hold) (hc : 1 ≤ p.calm) {a b : List Int} (h : LeL a b) : LeL (decidedS p a) (decidedS p b) := by
  refine ⟨by rw [decidedS_length, decidedS_length, h.1], fun k hk => ?_⟩
  rw [decidedS_length] at hk
  rw [dec_get p a hk, dec_get p b (by rw [← h.1]; exact hk)]
  exact decN_mono (raised_mono hw h) (kept_mono hc h) _ (by rw [raisedS_length]; omega) (by rw [keptS_length]; omega)

/-- the zeros ahead of what is decided -/
def padD (p : Pol) (days : List Int) : List Int := List.replicate p.notice.toNat 0 ++ decidedS p days
theorem padD_length (p : Pol) (days : List Int) : (padD p days).length = p.notice.toNat + days.length := by simp [padD, decidedS_length]
theorem padD_day (p : Pol) (days : List Int) (k : Nat) : (padD p days).getD (p.notice.toNat + k) 0 = (decidedS p days).getD k 0 := by
  simp [padD, List.getElem?_append_right]
theorem padD_zero (p : Pol) (days : List Int) {k : Nat} (h : k < p.notice.toNat) : (padD p days).getD k 0 = 0 := by
  simp [padD, List.getElem?_append_left, h]
theorem force_get (p : Pol) (days : List Int) (k : Nat) : (forceS p days).getD k 0 = (slide (p.notice + 1) false (padD p days)).getD (p.notice.toNat + k) 0 := by
  simp [forceS, padD, List.getElem?_drop]
theorem padD_mono {p : Pol} (hw : 1 ≤ p.hold) (hc : 1 ≤ p.calm) {a b : List Int} (h : LeL a b) : LeL (padD p a) (padD p b) := by
  refine ⟨by rw [padD_length, padD_length, h.1], fun k hk => ?_⟩
  rw [padD_length] at hk
  by_cases hz : k < p.notice.toNat
  · rw [padD_zero p a hz, padD_zero p b hz]; exact Int.le_refl _
  · obtain ⟨j, rfl⟩ : ∃ j, k = p.notice.toNat + j := ⟨k - p.notice.toNat, by omega⟩
    rw [padD_day, padD_day]
    exact (dec_mono hw hc h).2 j (by rw [decidedS_length]; omega)
theorem force_mono {p : Pol} (hw : 1 ≤ p.hold) (hc : 1 ≤ p.calm) (hn : 0 ≤ p.notice) {a b : List Int} (h : LeL a b) : LeL (forceS p a) (forceS p b) := by
  refine ⟨by rw [forceS_length, forceS_length, h.1], fun k hk => ?_⟩
  rw [forceS_length] at hk
  rw [force_get, force_get]
  exact (slide_mono (by omega) false (padD_mono hw hc h)).2 _ (by rw [slide_length, padD_length]; omega)
/-- in force is at most what was decided on each day of notice -/
theorem force_le {p : Pol} (hn : 0 ≤ p.notice) {days : List Int} {k j : Nat} (hk : k < days.length) (hj : j ≤ k) (hj' : (k : Int) - p.notice ≤ j) : (forceS p days).getD k 0 ≤ (decidedS p days).getD j 0 := by
  rw [force_get, ← padD_day]
  exact slide_least (by omega) _ (by rw [padD_length]; omega) (by omega) (by omega)
theorem force_early {p : Pol} {days : List Int} {k : Nat} (hk : k < days.length) (h : (k : Int) < p.notice) : (forceS p days).getD k 0 ≤ 0 := by
  have h1 := slide_least (wide := p.notice + 1) (by omega) (padD p days) (k := p.notice.toNat + k) (by rw [padD_length]; omega) (j := p.notice.toNat - 1) (by omega) (by omega)
  rw [padD_zero p days (by omega)] at h1
  rw [force_get]; exact h1
theorem le_force {p : Pol} (hn : 0 ≤ p.notice) {days : List Int} {k : Nat} (hk : k < days.length) {m : Int} (h0 : (k : Int) < p.notice → m ≤ 0) (h : ∀ j : Nat, j ≤ k → (k : Int) - p.notice ≤ j → m ≤ (decidedS p days).getD j 0) : m ≤ (forceS p days).getD k 0 := by
  rw [force_get]
  refine le_slide (by omega) _ (by rw [padD_length]; omega) fun j h1 h2 => ?_
  by_cases hz : j < p.notice.toNat
  · rw [padD_zero p days hz]; exact h0 (by omega)
  · obtain ⟨i, rfl⟩ : ∃ i, j = p.notice.toNat + i := ⟨j - p.notice.toNat, by omega⟩
    rw [padD_day]
    exact h i (by omega) (by omega)

theorem fulfils_less {v : Ves} {s t : Stp} (h1 : s.cls ≤ t.cls) (h2 : s.ton ≤ t.ton) (h : fulfils v t = true) : fulfils v s = true := by
  simp [fulfils] at *
  omega
theorem fulfils_more {v u : Ves} {s : Stp} (h1 : v.cls ≤ u.cls) (h2 : v.ton ≤ u.ton) (h3 : v.esc = true → u.esc = true) (h : fulfils v s = true) : fulfils u s = true := by
  simp [fulfils] at *
  cases hv : v.esc <;> cases hu : u.esc <;> simp [hv, hu] at * <;> omega
theorem passes_get (p : Pol) (days : List Int) (v : Ves) {k : Nat} (hk : k < days.length) : (passesS p days v).getD k false = fulfils v (stp p ((forceS p days).getD k 0).toNat) := by
  simp [passesS, stp, forceS_length, hk]
theorem force_step {p : Pol} (hc : checkS p = 0) (days : List Int) (k : Nat) : IsStep p ((forceS p days).getD k 0) :=
  getD_all (forceS_range (check_ok hc).1 (check_ok hc).2.2.2.2.2.2.1 days) (isStep_zero (check_ok hc).1) k
theorem dec_step {p : Pol} (hc : checkS p = 0) (days : List Int) (k : Nat) : IsStep p ((decidedS p days).getD k 0) :=
  getD_all (decidedS_range (check_ok hc).1 days) (isStep_zero (check_ok hc).1) k
theorem passes_mono {p : Pol} (hc : checkS p = 0) {a b : List Int} (h : LeL a b) (v : Ves) {k : Nat} (hk : k < a.length) (hp : (passesS p b v).getD k false = true) : (passesS p a v).getD k false = true := by
  have ck := check_ok hc
  rw [passes_get p b v (by rw [← h.1]; exact hk)] at hp
  rw [passes_get p a v hk]
  have h1 := (force_mono (p := p) ck.2.2.1 ck.2.2.2.2.1 ck.2.2.2.2.2.2.1 h).2 k (by rw [forceS_length]; exact hk)
  have h2 := force_step hc b k
  have h3 := force_step hc a k
  have h4 := stp_grow hc (i := ((forceS p a).getD k 0).toNat) (j := ((forceS p b).getD k 0).toNat) (by have := h3.1; have := h2.1; omega) (by have := h2.1; have := h2.2; omega)
  exact fulfils_less h4.1 h4.2.1 hp
theorem passes_more (p : Pol) (days : List Int) {v u : Ves} (h1 : v.cls ≤ u.cls) (h2 : v.ton ≤ u.ton) (h3 : v.esc = true → u.esc = true) {k : Nat} (hk : k < days.length) (h : (passesS p days v).getD k false = true) : (passesS p days u).getD k false = true := by
  rw [passes_get p days v hk] at h
  rw [passes_get p days u hk]
  exact fulfils_more h1 h2 h3 h
end Go.Proofs.Ytfmhlnfcbbpfeaa.Sp
