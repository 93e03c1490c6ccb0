/- Plain laws of layer 8: steps grow; the greatest step; what is raised, kept, decided, in force. -/
import Derived.Test.YtbgnkljjgfcngaaGreatRSp11
import Derived.Test.YtbgnkljjgfcngaaGreatRSp1
import Derived.Test.YtbgnkljjgfcngaaGreatRSp10
set_option linter.unusedVariables false
set_option linter.unusedSimpArgs false
namespace Go.Proofs.YtbgnkljjgfcngaaGreat.Sp

theorem stepsOkN_all {l : List Stp} : ∀ {n}, stepsOkN l n = true → ∀ k, k < n → goodAt l k = true
  | 0, _, k, h => absurd h (by omega)
  | n + 1, h, k, hk => by
    unfold stepsOkN at h
    rw [Bool.and_eq_true] at h
    by_cases e : k = n
    · subst e; exact h.2
    · exact stepsOkN_all h.1 k (by omega)

theorem check_steps {p : Pol} (h : checkS p = 0) : ∀ k, k < p.steps.length → goodAt p.steps k = true := by
  unfold checkS at h
  split at h
  · cases h
  · split at h
    · cases h
    · split at h
      · rename_i h3; exact stepsOkN_all h3
      · cases h
theorem check_first {p : Pol} (h : checkS p = 0) : p.steps.getD 0 default = ⟨0, 0, 0, 0⟩ := by
  unfold checkS at h
  split at h
  · cases h
  · split at h
    · cases h
    · rename_i h2
      simp [badGlob] at h2
      have := h2.2
      cases hp : p.steps with
      | nil => rw [hp] at this; simp at this; exact this
      | cons a l => rw [hp] at this; simpa using this

/-- the step i of a policy -/
def stp (p : Pol) (i : Nat) : Stp := p.steps.getD i default
theorem stp_good {p : Pol} (h : checkS p = 0) {i : Nat} (hi : i < p.steps.length) : 0 ≤ (stp p i).cls ∧ (stp p i).cls ≤ 6 ∧ 0 ≤ (stp p i).ton ∧ (stp p i).ton ≤ 500000 ∧ 0 ≤ (stp p i).up ∧ (stp p i).up ≤ 2000 ∧ 0 ≤ (stp p i).dn ∧ (stp p i).dn ≤ (stp p i).up := by
  have := check_steps h i hi
  simp only [goodAt, Bool.and_eq_true] at this
  have h1 := this.1
  simp [goodStep, within] at h1
  unfold stp
  simp only [List.getD_eq_getElem?_getD]
  omega
theorem stp_next {p : Pol} (h : checkS p = 0) {i : Nat} (hi : i + 1 < p.steps.length) : (stp p i).cls ≤ (stp p (i + 1)).cls ∧ (stp p i).ton ≤ (stp p (i + 1)).ton ∧ (stp p i).up < (stp p (i + 1)).up ∧ (stp p i).dn ≤ (stp p (i + 1)).dn := by
  have := check_steps h (i + 1) hi
  simp only [goodAt, Bool.and_eq_true] at this
  have h1 := this.2
  have e : ((i + 1 : Nat) == 0) = false := by simp
  rw [e, Bool.false_or, Nat.add_sub_cancel] at h1
  simp [goodPair] at h1
  unfold stp
  simp only [List.getD_eq_getElem?_getD]
  omega
theorem stp_grow {p : Pol} (h : checkS p = 0) {i : Nat} : ∀ {j : Nat}, i ≤ j → j < p.steps.length → (stp p i).cls ≤ (stp p j).cls ∧ (stp p i).ton ≤ (stp p j).ton ∧ (stp p i).up ≤ (stp p j).up ∧ (stp p i).dn ≤ (stp p j).dn ∧ (i < j → (stp p i).up < (stp p j).up)
  | 0, hij, hj => by obtain rfl : i = 0 := by omega
                     exact ⟨Int.le_refl _, Int.le_refl _, Int.le_refl _, Int.le_refl _, fun h => absurd h (by omega)⟩
  | j + 1, hij, hj => by
    by_cases e : i = j + 1
    · subst e; exact ⟨Int.le_refl _, Int.le_refl _, Int.le_refl _, Int.le_refl _, fun h => absurd h (by omega)⟩
    · have h1 := stp_grow h (i := i) (j := j) (by omega) (by omega)
      have h2 := stp_next h hj
      omega

theorem ups_get {p : Pol} {i : Nat} (hi : i < p.steps.length) : (ups p).getD i 0 = (stp p i).up := by simp [ups, stp, hi]
theorem dns_get {p : Pol} {i : Nat} (hi : i < p.steps.length) : (dns p).getD i 0 = (stp p i).dn := by simp [dns, stp, hi]
theorem ups_length (p : Pol) : (ups p).length = p.steps.length := by simp [ups]
theorem dns_length (p : Pol) : (dns p).length = p.steps.length := by simp [dns]

theorem upToN_ge {l : List Int} {sev : Int} {j : Nat} (h : l.getD j 0 ≤ sev) : ∀ {n}, j < n → (j : Int) ≤ upToN l sev n
  | 0, hj => absurd hj (by omega)
  | n + 1, hj => by
    unfold upToN
    split
    · omega
    · rename_i hc
      have : j ≠ n := fun e => hc (e ▸ h)
      exact upToN_ge h (by omega)
theorem upTo_ge {l : List Int} {sev : Int} {j : Nat} (hj : j < l.length) (h : l.getD j 0 ≤ sev) : (j : Int) ≤ upTo l sev := upToN_ge h hj
theorem upToN_is (l : List Int) (sev : Int) : ∀ n, upToN l sev n = 0 ∨ ∃ j, j < n ∧ upToN l sev n = (j : Int) ∧ l.getD j 0 ≤ sev
  | 0 => .inl rfl
  | n + 1 => by
    unfold upToN
    split
    · rename_i hc; exact .inr ⟨n, by omega, rfl, hc⟩
    · rcases upToN_is l sev n with h | ⟨j, h1, h2, h3⟩
      · exact .inl h
      · exact .inr ⟨j, by omega, h2, h3⟩
theorem upTo_is (l : List Int) (sev : Int) : upTo l sev = 0 ∨ ∃ j, j < l.length ∧ upTo l sev = (j : Int) ∧ l.getD j 0 ≤ sev := upToN_is l sev _
theorem upTo_nonneg (l : List Int) (sev : Int) : 0 ≤ upTo l sev := (upToN_range l sev _).1
theorem upTo_mono (l : List Int) {a b : Int} (h : a ≤ b) : upTo l a ≤ upTo l b := by
  rcases upTo_is l a with e | ⟨j, h1, h2, h3⟩
  · rw [e]; exact upTo_nonneg _ _
  · rw [h2]; exact upTo_ge h1 (by omega)

/-- nowhere less -/
def LeL (a b : List Int) : Prop := a.length = b.length ∧ ∀ k : Nat, k < a.length → a.getD k 0 ≤ b.getD k 0
theorem slide_mono {wide : Int} (hw : 1 ≤ wide) (gr : Bool) {a b : List Int} (h : LeL a b) : LeL (slide wide gr a) (slide wide gr b) := by
  refine ⟨by rw [slide_length, slide_length, h.1], fun k hk => ?_⟩
  rw [slide_length] at hk
  cases gr
  · exact le_slide hw b (by rw [← h.1]; exact hk) fun j h1 h2 => Int.le_trans (slide_least hw a hk h1 h2) (h.2 j (by omega))
  · exact slide_le hw a hk fun j h1 h2 => Int.le_trans (h.2 j (by omega)) (slide_most hw b (by rw [← h.1]; exact hk) h1 h2)

theorem raised_get (p : Pol) (days : List Int) {k : Nat} (hk : k < days.length) : (raisedS p days).getD k 0 = upTo (ups p) (if (k : Int) + 1 < p.hold then 0 else (slide p.hold false days).getD k 0) := by
  simp [raisedS, raisedAt, hk]
theorem kept_get (p : Pol) (days : List Int) {k : Nat} (hk : k < days.length) : (keptS p days).getD k 0 = upTo (dns p) ((slide p.calm true days).getD k 0) := by
  simp [keptS, keptAt, hk]
theorem dec_get (p : Pol) (days : List Int) {k : Nat} (hk : k < days.length) : (decidedS p days).getD k 0 = decN (raisedS p days) (keptS p days) (k + 1) := by
  simp [decidedS, decL, hk]

theorem decN_succ (up kp : List Int) (k : Nat) : decN up kp (k + 1) = max (up.getD k 0) (min (kp.getD k 0) (decN up kp k)) := rfl
theorem decN_mono {u u' v v' : List Int} (hu : LeL u u') (hv : LeL v v') : ∀ n, n ≤ u.length → n ≤ v.length → decN u v n ≤ decN u' v' n
  | 0, _, _ => Int.le_refl _
  | n + 1, h1, h2 => by
    have := decN_mono hu hv n (by omega) (by omega)
    have h3 := hu.2 n (by omega)
    have h4 := hv.2 n (by omega)
    rw [decN_succ, decN_succ]
    omega

theorem raised_mono {p : Pol} (hw : 1 ≤ p.hold) {a b : List Int} (h : LeL a b) : LeL (raisedS p a) (raisedS p b) := by
  refine ⟨by rw [raisedS_length, raisedS_length, h.1], fun k hk => ?_⟩
  rw [raisedS_length] at hk
  rw [raised_get p a hk, raised_get p b (by rw [← h.1]; exact hk)]
  refine upTo_mono _ ?_
  have := (slide_mono hw false h).2 k (by rw [slide_length]; exact hk)
  split <;> omega
theorem kept_mono {p : Pol} (hw : 1 ≤ p.calm) {a b : List Int} (h : LeL a b) : LeL (keptS p a) (keptS p b) := by
  refine ⟨by rw [keptS_length, keptS_length, h.1], fun k hk => ?_⟩
  rw [keptS_length] at hk
  rw [kept_get p a hk, kept_get p b (by rw [← h.1]; exact hk)]
  exact upTo_mono _ ((slide_mono hw true h).2 k (by rw [slide_length]; exact hk))
theorem dec_mono {p : Pol} (hw : 1 ≤ p.hold) (hc : 1 ≤ p.calm) {a b : List Int} (h : LeL a b) : LeL (decidedS p a) (decidedS p b) := by
  refine ⟨by rw [decidedS_length, decidedS_length, h.1], fun k hk => ?_⟩
  rw [decidedS_length] at hk
  rw [dec_get p a hk, dec_get p b (by rw [← h.1]; exact hk)]
  exact decN_mono (raised_mono hw h) (kept_mono hc h) _ (by rw [raisedS_length]; omega) (by rw [keptS_length]; omega)

/-- the zeros ahead of what is decided -/
def padD (p : Pol) (days : List Int) : List Int := List.replicate p.notice.toNat 0 ++ decidedS p days
theorem padD_length (p : Pol) (days : List Int) : (padD p days).length = p.notice.toNat + days.length := by simp [padD, decidedS_length]
theorem padD_day (p : Pol) (days : List Int) (k : Nat) : (padD p days).getD (p.notice.toNat + k) 0 = (decidedS p days).getD k 0 := by
  simp [padD, List.getElem?_append_right]
theorem padD_zero (p : Pol) (days : List Int) {k : Nat} (h : k < p.notice.toNat) : (padD p days).getD k 0 = 0 := by
  simp [padD, List.getElem?_append_left, h]
theorem force_get (p : Pol) (days : List Int) (k : Nat) : (forceS p days).getD k 0 = (slide (p.notice + 1) false (padD p days)).getD (p.notice.toNat + k) 0 := by
  simp [forceS, padD, List.getElem?_drop]
theorem padD_mono {p : Pol} (hw : 1 ≤ p.hold) (hc : 1 ≤ p.calm) {a b : List Int} (h : LeL a b) : LeL (padD p a) (padD p b) := by
  refine ⟨by rw [padD_length, padD_length, h.1], fun k hk => ?_⟩
  rw [padD_length] at hk
  by_cases hz : k < p.notice.toNat
  · rw [padD_zero p a hz, padD_zero p b hz]; exact Int.le_refl _
  · obtain ⟨j, rfl⟩ : ∃ j, k = p.notice.toNat + j := ⟨k - p.notice.toNat, by omega⟩
    rw [padD_day, padD_day]
    exact (dec_mono hw hc h).2 j (by rw [decidedS_length]; omega)
theorem force_mono {p : Pol} (hw : 1 ≤ p.hold) (hc : 1 ≤ p.calm) (hn : 0 ≤ p.notice) {a b : List Int} (h : LeL a b) : LeL (forceS p a) (forceS p b) := by
  refine ⟨by rw [forceS_length, forceS_length, h.1], fun k hk => ?_⟩
  rw [forceS_length] at hk
  rw [force_get, force_get]
  exact (slide_mono (by omega) false (padD_mono hw hc h)).2 _ (by rw [slide_length, padD_length]; omega)
/-- in force is at most what was decided on each day of notice -/
theorem force_le {p : Pol} (hn : 0 ≤ p.notice) {days : List Int} {k j : Nat} (hk : k < days.length) (hj : j ≤ k) (hj' : (k : Int) - p.notice ≤ j) : (forceS p days).getD k 0 ≤ (decidedS p days).getD j 0 := by
  rw [force_get, ← padD_day]
  exact slide_least (by omega) _ (by rw [padD_length]; omega) (by omega) (by omega)
theorem force_early {p : Pol} {days : List Int} {k : Nat} (hk : k < days.length) (h : (k : Int) < p.notice) : (forceS p days).getD k 0 ≤ 0 := by
  have h1 := slide_least (wide := p.notice + 1) (by omega) (padD p days) (k := p.notice.toNat + k) (by rw [padD_length]; omega) (j := p.notice.toNat - 1) (by omega) (by omega)
  rw [padD_zero p days (by omega)] at h1
  rw [force_get]; exact h1
theorem le_force {p : Pol} (hn : 0 ≤ p.notice) {days : List Int} {k : Nat} (hk : k < days.length) {m : Int} (h0 : (k : Int) < p.notice → m ≤ 0) (h : ∀ j : Nat, j ≤ k → (k : Int) - p.notice ≤ j → m ≤ (decidedS p days).getD j 0) : m ≤ (forceS p days).getD k 0 := by
  rw [force_get]
  refine le_slide (by omega) _ (by rw [padD_length]; omega) fun j h1 h2 => ?_
  by_cases hz : j < p.notice.toNat
  · rw [padD_zero p days hz]; exact h0 (by omega)
  · obtain ⟨i, rfl⟩ : ∃ i, j = p.notice.toNat + i := ⟨j - p.notice.toNat, by omega⟩
    rw [padD_day]
    exact h i (by omega) (by omega)

theorem fulfils_less {v : Ves} {s t : Stp} (h1 : s.cls ≤ t.cls) (h2 : s.ton ≤ t.ton) (h : fulfils v t = true) : fulfils v s = true := by
  simp [fulfils] at *
  omega
theorem fulfils_more {v u : Ves} {s : Stp} (h1 : v.cls ≤ u.cls) (h2 : v.ton ≤ u.ton) (h3 : v.esc = true → u.esc = true) (h : fulfils v s = true) : fulfils u s = true := by
  simp [fulfils] at *
  cases hv : v.esc <;> cases hu : u.esc <;> simp [hv, hu] at * <;> omega
theorem passes_get (p : Pol) (days : List Int) (v : Ves) {k : Nat} (hk : k < days.length) : (passesS p days v).getD k false = fulfils v (stp p ((forceS p days).getD k 0).toNat) := by
  simp [passesS, stp, forceS_length, hk]
theorem force_step {p : Pol} (hc : checkS p = 0) (days : List Int) (k : Nat) : IsStep p ((forceS p days).getD k 0) :=
  getD_all (forceS_range (check_ok hc).1 (check_ok hc).2.2.2.2.2.2.1 days) (isStep_zero (check_ok hc).1) k
theorem dec_step {p : Pol} (hc : checkS p = 0) (days : List Int) (k : Nat) : IsStep p ((decidedS p days).getD k 0) :=
  getD_all (decidedS_range (check_ok hc).1 days) (isStep_zero (check_ok hc).1) k
theorem passes_mono {p : Pol} (hc : checkS p = 0) {a b : List Int} (h : LeL a b) (v : Ves) {k : Nat} (hk : k < a.length) (hp : (passesS p b v).getD k false = true) : (passesS p a v).getD k false = true := by
  have ck := check_ok hc
  rw [passes_get p b v (by rw [← h.1]; exact hk)] at hp
  rw [passes_get p a v hk]
  have h1 := (force_mono (p := p) ck.2.2.1 ck.2.2.2.2.1 ck.2.2.2.2.2.2.1 h).2 k (by rw [forceS_length]; exact hk)
  have h2 := force_step hc b k
  have h3 := force_step hc a k
  have h4 := stp_grow hc (i := ((forceS p a).getD k 0).toNat) (j := ((forceS p b).getD k 0).toNat) (by have := h3.1; have := h2.1; omega) (by have := h2.1; have := h2.2; omega)
  exact fulfils_less h4.1 h4.2.1 hp
theorem passes_more (p : Pol) (days : List Int) {v u : Ves} (h1 : v.cls ≤ u.cls) (h2 : v.ton ≤ u.ton) (h3 : v.esc = true → u.esc = true) {k : Nat} (hk : k < days.length) (h : (passesS p days v).getD k false = true) : (passesS p days u).getD k false = true := by
  rw [passes_get p days v hk] at h
  rw [passes_get p days u hk]
  exact fulfils_more h1 h2 h3 h
end Go.Proofs.YtbgnkljjgfcngaaGreat.Sp
/- What the reference's Raised and Kept compute, and that it is what the program's windows compute. No program is named here. -/
namespace Go.Proofs.YtbgnkljjgfcngaaGreat.Sp

/-- how many of j days from lo on have at least u -/
def cntN (days : List Int) (u : Int) (lo : Nat) : Nat → Int
  | 0 => 0
  | j + 1 => if u ≤ days.getD (lo + j) 0 then cntN days u lo j + 1 else cntN days u lo j
theorem cntN_range (days : List Int) (u : Int) (lo : Nat) : ∀ j, 0 ≤ cntN days u lo j ∧ cntN days u lo j ≤ j
  | 0 => ⟨Int.le_refl _, Int.le_refl _⟩
  | j + 1 => by
    have := cntN_range days u lo j
    unfold cntN
    split <;> omega
theorem cntN_all {days : List Int} {u : Int} {lo : Nat} : ∀ {j : Nat}, cntN days u lo j = j ↔ ∀ i, i < j → u ≤ days.getD (lo + i) 0
  | 0 => ⟨fun _ i h => absurd h (by omega), fun _ => rfl⟩
  | j + 1 => by
    have ih := cntN_all (days := days) (u := u) (lo := lo) (j := j)
    have hr := cntN_range days u lo j
    unfold cntN
    by_cases h : u ≤ days.getD (lo + j) 0
    · rw [if_pos h]
      constructor
      · intro he i hi
        by_cases e : i = j
        · subst e; exact h
        · exact ih.1 (by omega) i (by omega)
      · intro ha
        have := ih.2 (fun i hi => ha i (by omega))
        omega
    · rw [if_neg h]
      exact ⟨fun he => absurd he (by omega), fun ha => absurd (ha j (by omega)) h⟩
/-- is there a day with at least u -/
def anyN (days : List Int) (u : Int) (lo : Nat) : Nat → Bool
  | 0 => false
  | j + 1 => decide (u ≤ days.getD (lo + j) 0) || anyN days u lo j
theorem anyN_iff {days : List Int} {u : Int} {lo : Nat} : ∀ {j : Nat}, anyN days u lo j = true ↔ ∃ i, i < j ∧ u ≤ days.getD (lo + i) 0
  | 0 => ⟨(fun h => by cases h), fun ⟨i, h, _⟩ => absurd h (by omega)⟩
  | j + 1 => by
    have ih := anyN_iff (days := days) (u := u) (lo := lo) (j := j)
    unfold anyN
    rw [Bool.or_eq_true, decide_eq_true_eq, ih]
    constructor
    · rintro (h | ⟨i, h1, h2⟩)
      · exact ⟨j, by omega, h⟩
      · exact ⟨i, by omega, h2⟩
    · rintro ⟨i, h1, h2⟩
      by_cases e : i = j
      · subst e; exact .inl h2
      · exact .inr ⟨i, by omega, h2⟩
/-- the first day of a window -/
def loD (day : Nat) (wide : Int) : Nat := ((day : Int) + 1 - wide).toNat
theorem loD_le {day : Nat} {wide : Int} (h : 1 ≤ wide) : loD day wide ≤ day ∧ (day : Int) + 1 - wide ≤ loD day wide ∧ (loD day wide = 0 ∨ (loD day wide : Int) = (day : Int) + 1 - wide) := by
  unfold loD; omega

def rRN (p : Pol) (days : List Int) (day : Nat) : Nat → Int
  | 0 => 0
  | k + 1 => if cntN days (stp p (k + 1)).up (loD day p.hold) (day + 1 - loD day p.hold) = p.hold then ((k + 1 : Nat) : Int) else rRN p days day k
def rKN (p : Pol) (days : List Int) (day : Nat) : Nat → Int
  | 0 => 0
  | k + 1 => if anyN days (stp p (k + 1)).dn (loD day p.calm) (day + 1 - loD day p.calm) = true then ((k + 1 : Nat) : Int) else rKN p days day k
theorem ite_self' {c : Prop} [Decidable c] : (if c then ((0 : Nat) : Int) else 0) = 0 := by split <;> rfl
section
variable {p : Pol} {days : List Int} {day : Nat}
theorem rRN_is (hc : checkS p = 0) (hd : day < days.length) : ∀ {k : Nat}, k < p.steps.length → rRN p days day k = upToN (ups p) (if (day : Int) + 1 < p.hold then 0 else (slide p.hold false days).getD day 0) (k + 1)
  | 0, h => by
    unfold rRN upToN upToN
    rw [ite_self']
  | k + 1, h => by
    have ck := check_ok hc
    have ih := rRN_is hc hd (k := k) (by omega)
    have hlo := loD_le (day := day) ck.2.2.1
    have hr := cntN_range days (stp p (k + 1)).up (loD day p.hold) (day + 1 - loD day p.hold)
    have e : (cntN days (stp p (k + 1)).up (loD day p.hold) (day + 1 - loD day p.hold) = p.hold) ↔ (ups p).getD (k + 1) 0 ≤ (if (day : Int) + 1 < p.hold then 0 else (slide p.hold false days).getD day 0) := by
      rw [ups_get h]
      by_cases hw : (day : Int) + 1 < p.hold
      · rw [if_pos hw]
        have h1 := stp_next hc (i := k) h
        have h2 := stp_good hc (i := k) (by omega)
        constructor
        · intro h3; omega
        · intro h3; omega
      · rw [if_neg hw]
        have hlen : ((day + 1 - loD day p.hold : Nat) : Int) = p.hold := by omega
        have ha := cntN_all (days := days) (u := (stp p (k + 1)).up) (lo := loD day p.hold) (j := day + 1 - loD day p.hold)
        rw [hlen] at ha
        rw [ha]
        constructor
        · intro h3
          exact le_slide ck.2.2.1 days hd fun j h4 h5 => by
            have := h3 (j - loD day p.hold) (by omega)
            rwa [show loD day p.hold + (j - loD day p.hold) = j from by omega] at this
        · intro h3 i hi
          have := slide_least ck.2.2.1 days hd (j := loD day p.hold + i) (by omega) (by omega)
          omega
    unfold rRN upToN
    by_cases h1 : cntN days (stp p (k + 1)).up (loD day p.hold) (day + 1 - loD day p.hold) = p.hold
    · rw [if_pos h1, if_pos (e.1 h1)]
    · rw [if_neg h1, if_neg (fun h2 => h1 (e.2 h2)), ih]
theorem rRN_raised (hc : checkS p = 0) (hd : day < days.length) : rRN p days day (p.steps.length - 1) = (raisedS p days).getD day 0 := by
  have h0 : 0 < p.steps.length := List.length_pos_iff.2 (check_ok hc).1
  rw [raised_get p days hd, rRN_is hc hd (by omega), upTo, ups_length, show p.steps.length - 1 + 1 = p.steps.length from by omega]
theorem rKN_is (hc : checkS p = 0) (hd : day < days.length) : ∀ {k : Nat}, k < p.steps.length → rKN p days day k = upToN (dns p) ((slide p.calm true days).getD day 0) (k + 1)
  | 0, h => by
    unfold rKN upToN upToN
    rw [ite_self']
  | k + 1, h => by
    have ck := check_ok hc
    have ih := rKN_is hc hd (k := k) (by omega)
    have hlo := loD_le (day := day) ck.2.2.2.2.1
    have e : (anyN days (stp p (k + 1)).dn (loD day p.calm) (day + 1 - loD day p.calm) = true) ↔ (dns p).getD (k + 1) 0 ≤ (slide p.calm true days).getD day 0 := by
      rw [dns_get h, anyN_iff]
      constructor
      · rintro ⟨i, h1, h2⟩
        have := slide_most ck.2.2.2.2.1 days hd (j := loD day p.calm + i) (by omega) (by omega)
        omega
      · intro h1
        obtain ⟨j, h2, h3, h4⟩ := slide_is ck.2.2.2.2.1 true days hd
        refine ⟨j - loD day p.calm, by omega, ?_⟩
        rw [show loD day p.calm + (j - loD day p.calm) = j from by omega, ← h4]; exact h1
    unfold rKN upToN
    by_cases h1 : anyN days (stp p (k + 1)).dn (loD day p.calm) (day + 1 - loD day p.calm) = true
    · rw [if_pos h1, if_pos (e.1 h1)]
    · rw [if_neg h1, if_neg (fun h2 => h1 (e.2 h2)), ih]
theorem rKN_kept (hc : checkS p = 0) (hd : day < days.length) : rKN p days day (p.steps.length - 1) = (keptS p days).getD day 0 := by
  have h0 : 0 < p.steps.length := List.length_pos_iff.2 (check_ok hc).1
  rw [kept_get p days hd, rKN_is hc hd (by omega), upTo, dns_length, show p.steps.length - 1 + 1 = p.steps.length from by omega]
end
end Go.Proofs.YtbgnkljjgfcngaaGreat.Sp
/- rules.shows -/
namespace Go.Proofs.YtbgnkljjgfcngaaGreat
open Go Go.RowKit Sp

def allGe (m : Int) (xs : List Int) (a : Nat) : Nat → Bool
  | 0 => true
  | n + 1 => allGe m xs a n && decide (m ≤ xs.getD (a + n) 0)
theorem allGe_false {m : Int} {xs : List Int} {a k : Nat} (h : ¬ m ≤ xs.getD (a + k) 0) : ∀ {n}, k < n → allGe m xs a n = false
  | 0, hk => absurd hk (by omega)
  | n + 1, hk => by
    unfold allGe
    by_cases e : k = n
    · subst e; rw [decide_eq_false h, Bool.and_false]
    · rw [allGe_false h (by omega : k < n), Bool.false_and]
theorem allGe_succ {m : Int} {xs : List Int} {a n : Nat} (h : allGe m xs a n = true) (h1 : m ≤ xs.getD (a + n) 0) : allGe m xs a (n + 1) = true := by unfold allGe; rw [h, decide_eq_true h1]; rfl
theorem allGe_iff {m : Int} {xs : List Int} {a n : Nat} : allGe m xs a n = true ↔ ∀ k, k < n → m ≤ xs.getD (a + k) 0 := by
  induction n with
  | zero => simp [allGe]
  | succ n ih =>
    rw [allGe, Bool.and_eq_true, ih, decide_eq_true_iff]
    exact ⟨fun h k hk => by by_cases e : k = n; (subst e; exact h.2); exact h.1 k (by omega), fun h => ⟨fun k hk => h k (by omega), h n (by omega)⟩⟩

def showsS (p : Pol) (days kp : List Int) (day step lo hi : Int) : Bool :=
  if lo < 0 ∨ day < hi ∨ day < lo ∨ hi - lo + 1 ≠ p.hold then false
  else allGe (p.steps.getD step.toNat default).up days lo.toNat (hi + 1 - lo).toNat && allGe step kp (hi + 1).toNat (day - hi).toNat

set_option maxRecDepth 100000 in
set_option maxHeartbeats 2000000 in
theorem shows_any (pb : Nat) (p : Pol) (A : Option Addr) (c : Nat) (days : List Int) (Ak : Option Addr) (ck : Nat) (kp : List Int) (d j : Nat) (lo hi : Int) (w : World) (hp : PolAt w pb p) (hh : 1 ≤ p.hold ∧ p.hold ≤ 1000)
    (hr : Rd w 1 A days.length (ints days)) (hc : days.length ≤ c ∧ c ≤ 9223372036854775807) (hrk : Rd w 1 Ak days.length (ints kp)) (hck : days.length ≤ ck ∧ ck ≤ 9223372036854775807) (hl : days.length ≤ 100000) (hd : d < days.length) (hj : j < p.steps.length) (hhi : -4000000000000000000 ≤ hi) :
    Calls Tryz.prog 82 #[.agg #[.pointer (some ⟨pb, 0, none⟩)], .slice A days.length c, .slice Ak days.length ck, .int .i64 d, .int .i64 j, .agg #[.int .i64 lo, .int .i64 hi]] w
      fun e w' => e = .returned (.bool (showsS p days kp d j lo hi)) ∧ Below w.heap.size w w' := by
  obtain ⟨b, off, cc, hs0, hbb, hln, hc0, hc1, hc2, hc3⟩ := hp.step hj
  have b0 : ∀ o o', Below w.heap.size w ((w.alloc o).alloc o') := fun o o' => ((Below.refl _ _).alloc (Nat.le_refl _) _).alloc (by simp) _
  obtain ⟨h, hh1⟩ : ∃ h, h = p.hold := ⟨_, rfl⟩
  have hs1 : w.cell? ⟨pb, 1, none⟩ = some (.int .i64 h) := by obtain ⟨Ap, cp, hh, _⟩ := hp; rw [cell_of_heap hh, hh1]; rfl
  have hpb : pb < w.heap.size := by obtain ⟨Ap, cp, hh, _⟩ := hp; exact heap_lt hh
  rw [← hh1] at hh
  have hH := Lib.hid hh1
  clear hh1 hp hc0 hc1 hc3
  by_cases g1 : lo < 0
  · have d1 : decide (lo < 0) = true := by simp [g1]
    go_enter Tryz.func82, Tryz.ntmps82
    go_upto_region 1 with fail
    go_quiet (fail)
    go_wp2_with fail
    go_ret
    exact ⟨by rw [showsS, if_pos (.inl g1)]; rfl, below_drewN (b0 _ _) _⟩
  · have d1 : decide (lo < 0) = false := by simp [g1]
    by_cases g2 : (d : Int) < hi
    · have d2 : decide ((d : Int) < hi) = true := by simp [g2]
      go_enter Tryz.func82, Tryz.ntmps82
      go_upto_region 1 with fail
      go_quiet (fail)
      go_wp2_with fail
      go_ret
      exact ⟨by rw [showsS, if_pos (.inr (.inl g2))]; rfl, below_drewN (b0 _ _) _⟩
    · have d2 : decide ((d : Int) < hi) = false := by simp [g2]
      by_cases g3 : (d : Int) < lo
      · have d3 : decide ((d : Int) < lo) = true := by simp [g3]
        go_enter Tryz.func82, Tryz.ntmps82
        go_upto_region 1 with fail
        go_quiet (fail)
        go_wp2_with fail
        go_ret
        exact ⟨by rw [showsS, if_pos (.inr (.inr (.inl g3)))]; rfl, below_drewN (b0 _ _) _⟩
      · have d3 : decide ((d : Int) < lo) = false := by simp [g3]
        have q1 : (0 : Int) ≤ lo := by omega
        have q2 : lo ≤ (d : Int) := by omega
        have q3 : hi ≤ (d : Int) := by omega
        by_cases g4 : hi - lo + 1 = h
        · have d4 : (hi - lo + 1 != h) = false := by simp [g4]
          obtain ⟨a, rfl⟩ : ∃ a : Nat, lo = a := ⟨lo.toNat, by omega⟩
          obtain ⟨z, rfl⟩ : ∃ z : Nat, hi = z := ⟨hi.toNat, by omega⟩
          obtain ⟨b1, o1, rfl, hb1, hcd⟩ := hr.2 (by omega)
          obtain ⟨b2, o2, rfl, hb2, hck2⟩ := hrk.2 (by omega)
          go_enter Tryz.func82, Tryz.ntmps82
          go_upto_region 1 with fail
          go_quiet (fail)
          go_wp2_with fail
          obtain ⟨W, hW⟩ : ∃ W, W = (((w.alloc (Obj.cells #[Value.pointer (some { block := pb, off := 0 })] 132)).alloc (Obj.cells #[Value.int IntKind.i64 ↑a, Value.int IntKind.i64 ↑z] 33)).drewN nq) := ⟨_, rfl⟩
          rw [← hW]
          have bW : Below w.heap.size w W := by rw [hW]; exact below_drewN (b0 _ _) _
          have e0 : W.cell? ⟨w.heap.size, 0, none⟩ = some (.pointer (some ⟨pb, 0, none⟩)) := by
            rw [hW, World.cell?_drewN, World.cell?_alloc_lt _ _ _ (by simp)]; exact cell_new_one _ _ _
          have e1 : W.cell? ⟨w.heap.size + 1, 1, none⟩ = some (.int .i64 z) := by
            rw [hW, World.cell?_drewN]
            have := World.cell?_alloc_new (w.alloc (Obj.cells #[Value.pointer (some { block := pb, off := 0 })] 132)) #[Value.int IntKind.i64 ↑a, Value.int IntKind.i64 ↑z] 33 1
            rw [World.size_alloc] at this
            exact this
          have e2 := (bW.cell (p := ⟨pb, 0, none⟩) hpb).trans hs0
          have e3 := (bW.cell (p := ⟨b, off + j * 4 + 2, none⟩) hbb).trans hc2
          obtain ⟨u, hu⟩ : ∃ u, u = p.steps[j].up := ⟨_, rfl⟩
          rw [← hu] at e3
          have hu' : u = (p.steps.getD j default).up := by rw [hu]; simp [hj]
          have f1 : ∀ k, k < days.length → W.cell? ⟨b1, o1 + k, none⟩ = some (.int .i64 (days.getD k 0)) := fun k hk => (bW.cell (p := ⟨b1, o1 + k, none⟩) hb1).trans (hcd k _ (ints_get hk))
          have hkl : kp.length = days.length := by have := hrk.1; simpa [ints] using this
          have f2 : ∀ k, k < days.length → W.cell? ⟨b2, o2 + k, none⟩ = some (.int .i64 (kp.getD k 0)) := fun k hk => (bW.cell (p := ⟨b2, o2 + k, none⟩) hb2).trans (hck2 k _ (ints_get (by omega)))
          have hsh : showsS p days kp d j a z = (allGe u days a (z + 1 - a) && allGe j kp (z + 1) (d - z)) := by
            rw [showsS, if_neg (by rw [← hH.out]; omega), hu']
            have n1 : ((a : Int)).toNat = a := by omega
            have n2 : ((z : Int) + 1 - (a : Int)).toNat = z + 1 - a := by omega
            have n3 : ((z : Int) + 1).toNat = z + 1 := by omega
            have n4 : ((d : Int) - (z : Int)).toNat = d - z := by omega
            have n5 : ((j : Int)).toNat = j := by omega
            rw [n1, n2, n3, n4, n5]
          have HS := Lib.hid (And.intro hsh (And.intro bW (And.intro f1 f2)))
          have haz : a ≤ z + 1 := by omega
          have hzd : z ≤ d := by omega
          clear hW hu hu' hsh bW f1 f2 hcd hck2 hs0 hc2 b0 hkl hr hrk hb1 hb2 hbb hpb
          generalize hsw : w.heap.size = sw at e0 e1 ⊢
          go_loopg [54] (z + 1 - a) (fun g i wr => ∃ k : Nat, g + k = z + 1 - a ∧ i = .int .i64 k ∧ allGe u days a k = true ∧ W = wr)
          case atStart => exact ⟨0, by omega, rfl, rfl, rfl⟩
          case round =>
            obtain ⟨k, hk, rfl, hall, rfl⟩ := hrel
            have HA := Lib.hid hall
            clear hall
            by_cases hlt : k < z + 1 - a
            · have c1 : W.cell? ⟨b1, o1 + a + k, none⟩ = some (.int .i64 (days.getD (a + k) 0)) := by rw [Nat.add_assoc]; exact HS.out.2.2.1 (a + k) (by omega)
              obtain ⟨x, hx⟩ : ∃ x, x = days.getD (a + k) 0 := ⟨_, rfl⟩
              rw [← hx] at c1
              have HX := Lib.hid hx
              clear hx
              by_cases hxu : x < u
              · go_wp2_with fail
                go_ret
                refine ⟨?_, hsw ▸ HS.out.2.1⟩
                rw [HS.out.1, allGe_false (k := k) (by rw [← HX.out]; omega) hlt]; rfl
              · go_wp2_with fail
                go_roundg (gk - 1)
                case measure => omega
                case rel => exact ⟨k + 1, by omega, by go_num, allGe_succ HA.out (by rw [← HX.out]; omega), rfl⟩
            · obtain rfl : k = z + 1 - a := by omega
              by_cases hcz : ck = z + 1
              · go_wp2_with fail
                go_loopg [78] (d - z) (fun g i wr => ∃ k : Nat, g + k = d - z ∧ i = .int .i64 k ∧ allGe j kp (z + 1) k = true ∧ W = wr)
                case atStart => exact ⟨0, by omega, rfl, rfl, rfl⟩
                case round =>
                  obtain ⟨k, hk, rfl, hall, rfl⟩ := hrel
                  have HA2 := Lib.hid hall
                  clear hall
                  by_cases hlt2 : k < d - z
                  · exfalso; omega
                  · obtain rfl : k = d - z := by omega
                    go_wp2_with fail
                    go_ret
                    exact ⟨by rw [HS.out.1, HA.out, HA2.out]; rfl, hsw ▸ HS.out.2.1⟩
              · go_wp2_with fail
                go_loopg [78] (d - z) (fun g i wr => ∃ k : Nat, g + k = d - z ∧ i = .int .i64 k ∧ allGe j kp (z + 1) k = true ∧ W = wr)
                case atStart => exact ⟨0, by omega, rfl, rfl, rfl⟩
                case round =>
                  obtain ⟨k, hk, rfl, hall, rfl⟩ := hrel
                  have HA2 := Lib.hid hall
                  clear hall
                  by_cases hlt2 : k < d - z
                  · have c1 : W.cell? ⟨b2, o2 + (z + 1) + k, none⟩ = some (.int .i64 (kp.getD (z + 1 + k) 0)) := by rw [Nat.add_assoc]; exact HS.out.2.2.2 (z + 1 + k) (by omega)
                    obtain ⟨x, hx⟩ : ∃ x, x = kp.getD (z + 1 + k) 0 := ⟨_, rfl⟩
                    rw [← hx] at c1
                    have HX := Lib.hid hx
                    clear hx
                    by_cases hxu : x < (j : Int)
                    · go_wp2_with fail
                      go_ret
                      refine ⟨?_, hsw ▸ HS.out.2.1⟩
                      rw [HS.out.1, allGe_false (xs := kp) (a := z + 1) (k := k) (by rw [← HX.out]; omega) hlt2, Bool.and_false]; rfl
                    · go_wp2_with fail
                      go_roundg (gk - 1)
                      case measure => omega
                      case rel => exact ⟨k + 1, by omega, by go_num, allGe_succ HA2.out (by rw [← HX.out]; omega), rfl⟩
                  · obtain rfl : k = d - z := by omega
                    go_wp2_with fail
                    go_ret
                    exact ⟨by rw [HS.out.1, HA.out, HA2.out]; rfl, hsw ▸ HS.out.2.1⟩
        · have d4 : (hi - lo + 1 != h) = true := by simp [g4]
          go_enter Tryz.func82, Tryz.ntmps82
          go_upto_region 1 with fail
          go_quiet (fail)
          go_wp2_with fail
          go_ret
          exact ⟨by rw [showsS, if_pos (.inr (.inr (.inr (by rw [← hH.out]; exact g4))))]; rfl, below_drewN (b0 _ _) _⟩
end Go.Proofs.YtbgnkljjgfcngaaGreat
