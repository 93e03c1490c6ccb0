/- Plain: every step that is decided or in force is one of the policy's. -/
import Derived.Test.YthmldeningpjbaaPCp2
import Derived.Test.YthmldeningpjbaaPCp0
import Derived.Test.YthmldeningpjbaaProg
set_option linter.unusedVariables false
set_option linter.unusedSimpArgs false
namespace Go.Proofs.Ythmldeningpjbaa.Sp

theorem upToN_range (l : List Int) (sev : Int) : ∀ n, 0 ≤ upToN l sev n ∧ (0 < n → upToN l sev n < n)
  | 0 => ⟨Int.le_refl _, fun h => absurd h (by omega)⟩
  | n + 1 => by
    have ih := upToN_range l sev n
    unfold upToN
    split
    · exact ⟨by omega, fun _ => by omega⟩
    · refine ⟨ih.1, fun _ => ?_⟩
      rcases Nat.eq_zero_or_pos n with h | h
      · subst h; simp [upToN]
      · have := ih.2 h; omega

theorem upTo_range (l : List Int) (sev : Int) (h : l ≠ []) : 0 ≤ upTo l sev ∧ upTo l sev < l.length := by
  have := upToN_range l sev l.length
  exact ⟨this.1, this.2 (by cases l with | nil => exact absurd rfl h | cons _ _ => simp)⟩

/-- what a window keeps are numbers that came -/
theorem pushD_mem {wide at_ : Int} {gr : Bool} {D : List (Int × Int)} {x : Int} {p : Int × Int} (h : p ∈ pushD wide at_ gr D x) : p ∈ D ∨ p = (x, at_) := by
  have h1 : p ∈ D.take (popLen gr x (D.map (·.1)) D.length) ++ [(x, at_)] := by
    simp only [pushD] at h
    split at h
    · exact List.mem_of_mem_tail h
    · exact h
  rcases List.mem_append.1 h1 with h1 | h1
  · exact .inl (List.mem_of_mem_take h1)
  · exact .inr (by simpa using h1)

theorem pushD_ne_nil {wide at_ : Int} {gr : Bool} {D : List (Int × Int)} {x : Int} (hw : 1 ≤ wide) : pushD wide at_ gr D x ≠ [] := by
  simp only [pushD]
  split
  · rename_i h
    cases hD : D.take (popLen gr x (D.map (·.1)) D.length) with
    | nil => rw [hD] at h; simp at h; omega
    | cons p r => simp
  · simp

theorem headV_mem {D : List (Int × Int)} (h : D ≠ []) : ∃ p ∈ D, headV D = p.1 := by
  cases D with
  | nil => exact absurd rfl h
  | cons p r => exact ⟨p, by simp, rfl⟩

theorem dq_mem {wide : Int} {gr : Bool} {xs : List Int} : ∀ {k : Nat} {p : Int × Int}, p ∈ dq wide gr xs k → ∃ i : Nat, i < k ∧ p = (xs.getD i 0, (i : Int))
  | 0, p, h => by simp [dq] at h
  | k + 1, p, h => by
    rcases pushD_mem h with h | h
    · obtain ⟨i, hi, e⟩ := dq_mem h
      exact ⟨i, by omega, e⟩
    · exact ⟨k, by omega, h⟩

theorem slide_all {wide : Int} {gr : Bool} {xs : List Int} (hw : 1 ≤ wide) {P : Int → Prop} (h : ∀ x ∈ xs, P x) : ∀ y ∈ slide wide gr xs, P y := by
  intro y hy
  simp only [slide, slideN, List.mem_map, List.mem_range] at hy
  obtain ⟨k, hk, rfl⟩ := hy
  obtain ⟨p, hp, e⟩ := headV_mem (D := dq wide gr xs (k + 1)) (pushD_ne_nil hw)
  obtain ⟨i, hi, rfl⟩ := dq_mem hp
  rw [e]
  have hil : i < xs.length := by omega
  rw [List.getD_eq_getElem?_getD, List.getElem?_eq_getElem hil]
  exact h _ (List.getElem_mem hil)

/-- a step of the policy -/
def IsStep (p : Pol) (y : Int) : Prop := 0 ≤ y ∧ y < p.steps.length

theorem raisedS_range {p : Pol} (hs : p.steps ≠ []) (days : List Int) : ∀ y ∈ raisedS p days, IsStep p y := by
  intro y hy
  simp only [raisedS, List.mem_map] at hy
  obtain ⟨k, _, rfl⟩ := hy
  have := upTo_range (ups p) (if (k : Int) + 1 < p.hold then 0 else (slide p.hold false days).getD k 0) (by simpa [ups] using hs)
  simpa [ups, raisedAt, IsStep] using this
theorem keptS_range {p : Pol} (hs : p.steps ≠ []) (days : List Int) : ∀ y ∈ keptS p days, IsStep p y := by
  intro y hy
  simp only [keptS, List.mem_map] at hy
  obtain ⟨k, _, rfl⟩ := hy
  have := upTo_range (dns p) ((slide p.calm true days).getD k 0) (by simpa [dns] using hs)
  simpa [dns, keptAt, IsStep] using this
theorem getD_all {P : Int → Prop} {l : List Int} (h : ∀ y ∈ l, P y) (h0 : P 0) (k : Nat) : P (l.getD k 0) := by
  rw [List.getD_eq_getElem?_getD]
  cases hk : l[k]? with
  | none => exact h0
  | some y => exact h y (List.mem_of_getElem? hk)
theorem isStep_zero {p : Pol} (hs : p.steps ≠ []) : IsStep p 0 := ⟨Int.le_refl _, by cases h : p.steps with | nil => exact absurd h hs | cons _ _ => simp⟩
theorem decN_range {p : Pol} (hs : p.steps ≠ []) (days : List Int) : ∀ k, IsStep p (decN (raisedS p days) (keptS p days) k)
  | 0 => isStep_zero hs
  | k + 1 => by
    have h1 := getD_all (raisedS_range hs days) (isStep_zero hs) k
    have h2 := getD_all (keptS_range hs days) (isStep_zero hs) k
    have h3 := decN_range hs days k
    unfold decN
    unfold IsStep at *
    omega
theorem decidedS_range {p : Pol} (hs : p.steps ≠ []) (days : List Int) : ∀ y ∈ decidedS p days, IsStep p y := by
  intro y hy
  simp only [decidedS, decL, List.mem_map] at hy
  obtain ⟨k, _, rfl⟩ := hy
  exact decN_range hs days (k + 1)
theorem forceS_range {p : Pol} (hs : p.steps ≠ []) (hn : 0 ≤ p.notice) (days : List Int) : ∀ y ∈ forceS p days, IsStep p y := by
  intro y hy
  refine slide_all (by omega) ?_ y (List.mem_of_mem_drop hy)
  intro x hx
  rcases List.mem_append.1 hx with h | h
  · rw [List.eq_of_mem_replicate h]; exact isStep_zero hs
  · exact decidedS_range hs days x h

/-- on which days a vessel may pass -/
def passesS (p : Pol) (days : List Int) (v : Ves) : List Bool := (forceS p days).map fun k => fulfils v (p.steps.getD k.toNat default)
theorem passesS_length (p : Pol) (days : List Int) (v : Ves) : (passesS p days v).length = days.length := by simp [passesS, forceS_length]
end Go.Proofs.Ythmldeningpjbaa.Sp
/- Plain laws of layer 8: steps grow; the greatest step; what is raised, kept, decided, in force. -/
namespace Go.Proofs.Ythmldeningpjbaa.Sp

theorem stepsOkN_all {l : List Stp} : ∀ {n}, stepsOkN l n = true → ∀ k, k < n → goodAt l k = true
  | 0, _, k, h => absurd h (by omega)
  | n + 1, h, k, hk => by
    unfold stepsOkN at h
    rw [Bool.and_eq_true] at h
    by_cases e : k = n
    · subst e; exact h.2
    · exact stepsOkN_all h.1 k (by omega)

theorem check_steps {p : Pol} (h : checkS p = 0) : ∀ k, k < p.steps.length → goodAt p.steps k = true := by
  unfold checkS at h
  split at h
  · cases h
  · split at h
    · cases h
    · split at h
      · rename_i h3; exact stepsOkN_all h3
      · cases h
theorem check_first {p : Pol} (h : checkS p = 0) : p.steps.getD 0 default = ⟨0, 0, 0, 0⟩ := by
  unfold checkS at h
  split at h
  · cases h
  · split at h
    · cases h
    · rename_i h2
      simp [badGlob] at h2
      have := h2.2
      cases hp : p.steps with
      | nil => rw [hp] at this; simp at this; exact this
      | cons a l => rw [hp] at this; simpa using this

/-- the step i of a policy -/
def stp (p : Pol) (i : Nat) : Stp := p.steps.getD i default
theorem stp_good {p : Pol} (h : checkS p = 0) {i : Nat} (hi : i < p.steps.length) : 0 ≤ (stp p i).cls ∧ (stp p i).cls ≤ 6 ∧ 0 ≤ (stp p i).ton ∧ (stp p i).ton ≤ 500000 ∧ 0 ≤ (stp p i).up ∧ (stp p i).up ≤ 2000 ∧ 0 ≤ (stp p i).dn ∧ (stp p i).dn ≤ (stp p i).up := by
  have := check_steps h i hi
  simp only [goodAt, Bool.and_eq_true] at this
  have h1 := this.1
  simp [goodStep, within] at h1
  unfold stp
  simp only [List.getD_eq_getElem?_getD]
  omega
theorem stp_next {p : Pol} (h : checkS p = 0) {i : Nat} (hi : i + 1 < p.steps.length) : (stp p i).cls ≤ (stp p (i + 1)).cls ∧ (stp p i).ton ≤ (stp p (i + 1)).ton ∧ (stp p i).up < (stp p (i + 1)).up ∧ (stp p i).dn ≤ (stp p (i + 1)).dn := by
  have := check_steps h (i + 1) hi
  simp only [goodAt, Bool.and_eq_true] at this
  have h1 := this.2
  have e : ((i + 1 : Nat) == 0) = false := by simp
  rw [e, Bool.false_or, Nat.add_sub_cancel] at h1
  simp [goodPair] at h1
  unfold stp
  simp only [List.getD_eq_getElem?_getD]
  omega
theorem stp_grow {p : Pol} (h : checkS p = 0) {i : Nat} : ∀ {j : Nat}, i ≤ j → j < p.steps.length → (stp p i).cls ≤ (stp p j).cls ∧ (stp p i).ton ≤ (stp p j).ton ∧ (stp p i).up ≤ (stp p j).up ∧ (stp p i).dn ≤ (stp p j).dn ∧ (i < j → (stp p i).up < (stp p j).up)
  | 0, hij, hj => by obtain rfl : i = 0 := by omega
                     exact ⟨Int.le_refl _, Int.le_refl _, Int.le_refl _, Int.le_refl _, fun h => absurd h (by omega)⟩
  | j + 1, hij, hj => by
    by_cases e : i = j + 1
    · subst e; exact ⟨Int.le_refl _, Int.le_refl _, Int.le_refl _, Int.le_refl _, fun h => absurd h (by omega)⟩
    · have h1 := stp_grow h (i := i) (j := j) (by omega) (by omega)
      have h2 := stp_next h hj
      omega

theorem ups_get {p : Pol} {i : Nat} (hi : i < p.steps.length) : (ups p).getD i 0 = (stp p i).up := by simp [ups, stp, hi]
theorem dns_get {p : Pol} {i : Nat} (hi : i < p.steps.length) : (dns p).getD i 0 = (stp p i).dn := by simp [dns, stp, hi]
theorem ups_length (p : Pol) : (ups p).length = p.steps.length := by simp [ups]
theorem dns_length (p : Pol) : (dns p).length = p.steps.length := by simp [dns]

theorem upToN_ge {l : List Int} {sev : Int} {j : Nat} (h : l.getD j 0 ≤ sev) : ∀ {n}, j < n → (j : Int) ≤ upToN l sev n
  | 0, hj => absurd hj (by omega)
  | n + 1, hj => by
    unfold upToN
    split
    · omega
    · rename_i hc
      have : j ≠ n := fun e => hc (e ▸ h)
      exact upToN_ge h (by omega)
theorem upTo_ge {l : List Int} {sev : Int} {j : Nat} (hj : j < l.length) (h : l.getD j 0 ≤ sev) : (j : Int) ≤ upTo l sev := upToN_ge h hj
theorem upToN_is (l : List Int) (sev : Int) : ∀ n, upToN l sev n = 0 ∨ ∃ j, j < n ∧ upToN l sev n = (j : Int) ∧ l.getD j 0 ≤ sev
  | 0 => .inl rfl
  | n + 1 => by
    unfold upToN
    split
    · rename_i hc; exact .inr ⟨n, by omega, rfl, hc⟩
    · rcases upToN_is l sev n with h | ⟨j, h1, h2, h3⟩
      · exact .inl h
      · exact .inr ⟨j, by omega, h2, h3⟩
theorem upTo_is (l : List Int) (sev : Int) : upTo l sev = 0 ∨ ∃ j, j < l.length ∧ upTo l sev = (j : Int) ∧ l.getD j 0 ≤ sev := upToN_is l sev _
theorem upTo_nonneg (l : List Int) (sev : Int) : 0 ≤ upTo l sev := (upToN_range l sev _).1
theorem upTo_mono (l : List Int) {a b : Int} (h : a ≤ b) : upTo l a ≤ upTo l b := by
  rcases upTo_is l a with e | ⟨j, h1, h2, h3⟩
  · rw [e]; exact upTo_nonneg _ _
  · rw [h2]; exact upTo_ge h1 (by omega)

/-- nowhere less -/
def LeL (a b : List Int) : Prop := a.length = b.length ∧ ∀ k : Nat, k < a.length → a.getD k 0 ≤ b.getD k 0
theorem slide_mono {wide : Int} (hw : 1 ≤ wide) (gr : Bool) {a b : List Int} (h : LeL a b) : LeL (slide wide gr a) (slide wide gr b) := by
  refine ⟨by rw [slide_length, slide_length, h.1], fun k hk => ?_⟩
  rw [slide_length] at hk
  cases gr
  · exact le_slide hw b (by rw [← h.1]; exact hk) fun j h1 h2 => Int.le_trans (slide_least hw a hk h1 h2) (h.2 j (by omega))
  · exact slide_le hw a hk fun j h1 h2 => Int.le_trans (h.2 j (by omega)) (slide_most hw b (by rw [← h.1]; exact hk) h1 h2)

theorem raised_get (p : Pol) (days : List Int) {k : Nat} (hk : k < days.length) : (raisedS p days).getD k 0 = upTo (ups p) (if (k : Int) + 1 < p.hold then 0 else (slide p.hold false days).getD k 0) := by
  simp [raisedS, raisedAt, hk]
theorem kept_get (p : Pol) (days : List Int) {k : Nat} (hk : k < days.length) : (keptS p days).getD k 0 = upTo (dns p) ((slide p.calm true days).getD k 0) := by
  simp [keptS, keptAt, hk]
theorem dec_get (p : Pol) (days : List Int) {k : Nat} (hk : k < days.length) : (decidedS p days).getD k 0 = decN (raisedS p days) (keptS p days) (k + 1) := by
  simp [decidedS, decL, hk]

theorem decN_succ (up kp : List Int) (k : Nat) : decN up kp (k + 1) = max (up.getD k 0) (min (kp.getD k 0) (decN up kp k)) := rfl
theorem decN_mono {u u' v v' : List Int} (hu : LeL u u') (hv : LeL v v') : ∀ n, n ≤ u.length → n ≤ v.length → decN u v n ≤ decN u' v' n
  | 0, _, _ => Int.le_refl _
  | n + 1, h1, h2 => by
    have := decN_mono hu hv n (by omega) (by omega)
    have h3 := hu.2 n (by omega)
    have h4 := hv.2 n (by omega)
    rw [decN_succ, decN_succ]
    omega

theorem raised_mono {p : Pol} (hw : 1 ≤ p.hold) {a b : List Int} (h : LeL a b) : LeL (raisedS p a) (raisedS p b) := by
  refine ⟨by rw [raisedS_length, raisedS_length, h.1], fun k hk => ?_⟩
  rw [raisedS_length] at hk
  rw [raised_get p a hk, raised_get p b (by rw [← h.1]; exact hk)]
  refine upTo_mono _ ?_
  have := (slide_mono hw false h).2 k (by rw [slide_length]; exact hk)
  split <;> omega
theorem kept_mono {p : Pol} (hw : 1 ≤ p.calm) {a b : List Int} (h : LeL a b) : LeL (keptS p a) (keptS p b) := by
  refine ⟨by rw [keptS_length, keptS_length, h.1], fun k hk => ?_⟩
  rw [keptS_length] at hk
  rw [kept_get p a hk, kept_get p b (by rw [← h.1]; exact hk)]
  exact upTo_mono _ ((slide_mono hw true h).2 k (by rw [slide_length]; exact hk))
theorem dec_mono {p : Pol} (hw : 1 ≤ p.hold) (hc : 1 ≤ p.calm) {a b : List Int} (h : LeL a b) : LeL (decidedS p a) (decidedS p b) := by
  refine ⟨by rw [decidedS_length, decidedS_length, h.1], fun k hk => ?_⟩
  rw [decidedS_length] at hk
  rw [dec_get p a hk, dec_get p b (by rw [← h.1]; exact hk)]
  exact decN_mono (raised_mono hw h) (kept_mono hc h) _ (by rw [raisedS_length]; omega) (by rw [keptS_length]; omega)

/-- the zeros ahead of what is decided -/
def padD (p : Pol) (days : List Int) : List Int := List.replicate p.notice.toNat 0 ++ decidedS p days
theorem padD_length (p : Pol) (days : List Int) : (padD p days).length = p.notice.toNat + days.length := by simp [padD, decidedS_length]
theorem padD_day (p : Pol) (days : List Int) (k : Nat) : (padD p days).getD (p.notice.toNat + k) 0 = (decidedS p days).getD k 0 := by
  simp [padD, List.getElem?_append_right]
theorem padD_zero (p : Pol) (days : List Int) {k : Nat} (h : k < p.notice.toNat) : (padD p days).getD k 0 = 0 := by
  simp [padD, List.getElem?_append_left, h]
theorem force_get (p : Pol) (days : List Int) (k : Nat) : (forceS p days).getD k 0 = (slide (p.notice + 1) false (padD p days)).getD (p.notice.toNat + k) 0 := by
  simp [forceS, padD, List.getElem?_drop]
theorem padD_mono {p : Pol} (hw : 1 ≤ p.hold) (hc : 1 ≤ p.calm) {a b : List Int} (h : LeL a b) : LeL (padD p a) (padD p b) := by
  refine ⟨by rw [padD_length, padD_length, h.1], fun k hk => ?_⟩
  rw [padD_length] at hk
  by_cases hz : k < p.notice.toNat
  · rw [padD_zero p a hz, padD_zero p b hz]; exact Int.le_refl _
  · obtain ⟨j, rfl⟩ : ∃ j, k = p.notice.toNat + j := ⟨k - p.notice.toNat, by omega⟩
    rw [padD_day, padD_day]
    exact (dec_mono hw hc h).2 j (by rw [decidedS_length]; omega)
theorem force_mono {p : Pol} (hw : 1 ≤ p.hold) (hc : 1 ≤ p.calm) (hn : 0 ≤ p.notice) {a b : List Int} (h : LeL a b) : LeL (forceS p a) (forceS p b) := by
  refine ⟨by rw [forceS_length, forceS_length, h.1], fun k hk => ?_⟩
  rw [forceS_length] at hk
  rw [force_get, force_get]
  exact (slide_mono (by omega) false (padD_mono hw hc h)).2 _ (by rw [slide_length, padD_length]; omega)
/-- in force is at most what was decided on each day of notice -/
theorem force_le {p : Pol} (hn : 0 ≤ p.notice) {days : List Int} {k j : Nat} (hk : k < days.length) (hj : j ≤ k) (hj' : (k : Int) - p.notice ≤ j) : (forceS p days).getD k 0 ≤ (decidedS p days).getD j 0 := by
  rw [force_get, ← padD_day]
  exact slide_least (by omega) _ (by rw [padD_length]; omega) (by omega) (by omega)
theorem force_early {p : Pol} {days : List Int} {k : Nat} (hk : k < days.length) (h : (k : Int) < p.notice) : (forceS p days).getD k 0 ≤ 0 := by
  have h1 := slide_least (wide := p.notice + 1) (by omega) (padD p days) (k := p.notice.toNat + k) (by rw [padD_length]; omega) (j := p.notice.toNat - 1) (by omega) (by omega)
  rw [padD_zero p days (by omega)] at h1
  rw [force_get]; exact h1
theorem le_force {p : Pol} (hn : 0 ≤ p.notice) {days : List Int} {k : Nat} (hk : k < days.length) {m : Int} (h0 : (k : Int) < p.notice → m ≤ 0) (h : ∀ j : Nat, j ≤ k → (k : Int) - p.notice ≤ j → m ≤ (decidedS p days).getD j 0) : m ≤ (forceS p days).getD k 0 := by
  rw [force_get]
  refine le_slide (by omega) _ (by rw [padD_length]; omega) fun j h1 h2 => ?_
  by_cases hz : j < p.notice.toNat
  · rw [padD_zero p days hz]; exact h0 (by omega)
  · obtain ⟨i, rfl⟩ : ∃ i, j = p.notice.toNat + i := ⟨j - p.notice.toNat, by omega⟩
    rw [padD_day]
    exact h i (by omega) (by omega)

theorem fulfils_less {v : Ves} {s t : Stp} (h1 : s.cls ≤ t.cls) (h2 : s.ton ≤ t.ton) (h : fulfils v t = true) : fulfils v s = true := by
  simp [fulfils] at *
  omega
theorem fulfils_more {v u : Ves} {s : Stp} (h1 : v.cls ≤ u.cls) (h2 : v.ton ≤ u.ton) (h3 : v.esc = true → u.esc = true) (h : fulfils v s = true) : fulfils u s = true := by
  simp [fulfils] at *
  cases hv : v.esc <;> cases hu : u.esc <;> simp [hv, hu] at * <;> omega
theorem passes_get (p : Pol) (days : List Int) (v : Ves) {k : Nat} (hk : k < days.length) : (passesS p days v).getD k false = fulfils v (stp p ((forceS p days).getD k 0).toNat) := by
  simp [passesS, stp, forceS_length, hk]
theorem force_step {p : Pol} (hc : checkS p = 0) (days : List Int) (k : Nat) : IsStep p ((forceS p days).getD k 0) :=
  getD_all (forceS_range (check_ok hc).1 (check_ok hc).2.2.2.2.2.2.1 days) (isStep_zero (check_ok hc).1) k
theorem dec_step {p : Pol} (hc : checkS p = 0) (days : List Int) (k : Nat) : IsStep p ((decidedS p days).getD k 0) :=
  getD_all (decidedS_range (check_ok hc).1 days) (isStep_zero (check_ok hc).1) k
theorem passes_mono {p : Pol} (hc : checkS p = 0) {a b : List Int} (h : LeL a b) (v : Ves) {k : Nat} (hk : k < a.length) (hp : (passesS p b v).getD k false = true) : (passesS p a v).getD k false = true := by
  have ck := check_ok hc
  rw [passes_get p b v (by rw [← h.1]; exact hk)] at hp
  rw [passes_get p a v hk]
  have h1 := (force_mono (p := p) ck.2.2.1 ck.2.2.2.2.1 ck.2.2.2.2.2.2.1 h).2 k (by rw [forceS_length]; exact hk)
  have h2 := force_step hc b k
  have h3 := force_step hc a k
  have h4 := stp_grow hc (i := ((forceS p a).getD k 0).toNat) (j := ((forceS p b).getD k 0).toNat) (by have := h3.1; have := h2.1; omega) (by have := h2.1; have := h2.2; omega)
  exact fulfils_less h4.1 h4.2.1 hp
theorem passes_more (p : Pol) (days : List Int) {v u : Ves} (h1 : v.cls ≤ u.cls) (h2 : v.ton ≤ u.ton) (h3 : v.esc = true → u.esc = true) {k : Nat} (hk : k < days.length) (h : (passesS p days v).getD k false = true) : (passesS p days u).getD k false = true := by
  rw [passes_get p days v hk] at h
  rw [passes_get p days u hk]
  exact fulfils_more h1 h2 h3 h
end Go.Proofs.Ythmldeningpjbaa.Sp
/- More words for memory. No program is named here. -/
namespace Go.Proofs.Ythmldeningpjbaa
open Go Go.RowKit

section
variable {w w' : World} {e : TypeId} {n c : Nat} {xs : List Value} {fp : List Nat}
theorem OwnA.set_ {g off : Nat} (h : OwnA w e (some ⟨g, off, none⟩) n c xs fp) {k : Nat} (hk : k < n) (u : Value) : OwnA (w.setCell ⟨g, off + k, none⟩ u) e (some ⟨g, off, none⟩) n c (xs.set k u) fp := by
  refine ⟨by rw [List.length_set, h.1], .inr ?_⟩
  rcases h.2 with ⟨h0, _⟩ | ⟨g', off', cur, he, rfl, hh, h1, h2, h3, h4⟩
  · cases h0
  · injection he with he
    injection he with e1 e2 _
    subst e1 e2
    refine ⟨g, off, cur.setIfInBounds (off + k) u, rfl, rfl, heap_set hh _ _, h1, h2, by simpa using h3, fun j v hv => ?_⟩
    rw [List.getElem?_set] at hv
    by_cases hjk : k = j
    · subst hjk
      rw [if_pos rfl] at hv
      split at hv
      · injection hv with e1
        subst e1
        rw [Array.getElem?_setIfInBounds_self_of_lt (by omega)]
      · cases hv
    · rw [if_neg hjk] at hv
      rw [Array.getElem?_setIfInBounds_ne (by omega)]
      exact h4 j v hv
theorem Keep.cell {S : List Nat} (h : Keep S w w') {b o : Nat} {u : Value} (hc : w.cell? ⟨b, o, none⟩ = some u) (hn : b ∉ S) : w'.cell? ⟨b, o, none⟩ = some u :=
  (World.cell?_of_block (w := w) (h.block b (World.block_lt_of_cell? w _ hc) hn)).trans hc
theorem Keep.rd {S : List Nat} {size : Nat} {A : Option Addr} (h : Keep S w w') (hr : Rd w size A n xs) (hn : ∀ b off, A = some ⟨b, off, none⟩ → b ∉ S) : Rd w' size A n xs := by
  refine ⟨hr.1, fun h0 => ?_⟩
  obtain ⟨b, off, e, hl, hc⟩ := hr.2 h0
  exact ⟨b, off, e, Nat.lt_of_lt_of_le hl h.size, fun j u hu => h.cell (hc j u hu) (hn b off e)⟩
theorem Keep.below' {S : List Nat} (h : Keep S w w') {B : Nat} (hB : B ≤ w.heap.size) (hs : ∀ x ∈ S, B ≤ x) : Below B w w' := h.below hB hs
theorem OwnA.mem_ {A : Option Addr} (h : OwnA w e A n c xs fp) (h0 : 0 < n) {b off : Nat} (he : A = some ⟨b, off, none⟩) : b ∈ fp := by
  obtain ⟨g, o, e1, e2, _⟩ := h.some_ h0
  rw [he] at e1
  injection e1 with e1
  injection e1 with e1 _ _
  rw [e2, e1]; simp
theorem cell_new_one (w : World) (u : Value) (t : TypeId) : (w.alloc (.cells #[u] t)).cell? ⟨w.heap.size, 0, none⟩ = some u := by simp [World.cell?_alloc_new]
theorem Rd.lt' {size : Nat} {A : Option Addr} (hr : Rd w size A n xs) (h0 : 0 < n) {b off : Nat} (e : A = some ⟨b, off, none⟩) : b < w.heap.size := by
  obtain ⟨b', off', e', hl, _⟩ := hr.2 h0
  rw [e] at e'
  injection e' with e'
  injection e' with e1 _ _
  omega
end
end Go.Proofs.Ythmldeningpjbaa
/- Drawn: a function that yields numbers below a bound, one after the other -/
namespace Go.Proofs.Ythmldeningpjbaa
open Go Go.RowKit Sp

def byts (l : List Int) : List Value := l.map (Value.int .u8)
theorem byts_get {l : List Int} {k : Nat} (h : k < l.length) : (byts l)[k]? = some (.int .u8 (l.getD k 0)) := by simp [byts, h]
/-- the bytes l, k of which have been drawn; ib, lb: the closure's cells -/
structure DrawSt (w : World) (ib lb : Nat) (A : Option Addr) (c : Nat) (l : List Int) (k : Nat) : Prop where
  cnt : w.heap[ib]? = some (.cells #[.int .i64 (min k l.length : Nat)] 3 (0, 0))
  lst : w.heap[lb]? = some (.cells #[.slice A l.length c] 22 (0, 0))
  rd : Rd w 1 A l.length (byts l)
theorem DrawSt.keep {w w' : World} {ib lb : Nat} {A : Option Addr} {c : Nat} {l : List Int} {k : Nat} (h : DrawSt w ib lb A c l k) {S : List Nat} (hk : Keep S w w') (h1 : ib ∉ S) (h2 : lb ∉ S) (h3 : 0 < l.length → ∀ b off, A = some ⟨b, off, none⟩ → b ∉ S) : DrawSt w' ib lb A c l k :=
  ⟨(hk.block _ (heap_lt h.cnt) h1).trans h.cnt, (hk.block _ (heap_lt h.lst) h2).trans h.lst, h.rd.1, fun h0 => (hk.rd h.rd (h3 h0)).2 h0⟩
def draw (l : List Int) (k : Nat) (n : Int) : Int := l.getD k 0 % n
theorem draw_range {l : List Int} (k : Nat) {n : Int} (hn : 0 < n) : 0 ≤ draw l k n ∧ draw l k n < n := ⟨Int.emod_nonneg _ (by omega), Int.emod_lt_of_pos _ hn⟩

def Bytes (l : List Int) : Prop := ∀ x ∈ l, 0 ≤ x ∧ x ≤ 255
theorem Bytes.get {l : List Int} (h : Bytes l) (k : Nat) : 0 ≤ l.getD k 0 ∧ l.getD k 0 ≤ 255 := by
  rw [List.getD_eq_getElem?_getD]
  cases hk : l[k]? with
  | none => simp
  | some x => exact h x (List.mem_of_getElem? hk)

def NextPost (w : World) (ib lb : Nat) (A : Option Addr) (c : Nat) (l : List Int) (k : Nat) (n : Int) (e : Ending) (w' : World) : Prop :=
  e = .returned (.int .i64 (draw l k n)) ∧ DrawSt w' ib lb A c l (k + 1) ∧ Keep [ib] w w' ∧ w'.heap.size = w.heap.size

set_option maxHeartbeats 1000000 in
theorem next_any (ib lb : Nat) (A : Option Addr) (c : Nat) (l : List Int) (k : Nat) (n : Int) (w : World) (h : DrawSt w ib lb A c l k) (hl : Bytes l) (hm : l.length ≤ 9223372036854775806) (hne : ib ≠ lb) (hA : 0 < l.length → ∀ b off, A = some ⟨b, off, none⟩ → b ≠ ib) (hn : 0 < n ∧ n ≤ 1000) :
    Calls Try.prog 70 #[.int .i64 n, .pointer (some ⟨ib, 0, none⟩), .pointer (some ⟨lb, 0, none⟩)] w (NextPost w ib lb A c l k n) := by
  have ci : w.cell? ⟨ib, 0, none⟩ = some (.int .i64 (min k l.length : Nat)) := (cell_of_heap h.cnt 0).trans rfl
  have cl : w.cell? ⟨lb, 0, none⟩ = some (.slice A l.length c) := (cell_of_heap h.lst 0).trans rfl
  have fi := frozen_of_heap h.cnt 0
  have zi := heap_lt h.cnt
  have zl := heap_lt h.lst
  obtain ⟨hn1, hn2⟩ := hn
  have H := Lib.hid h
  by_cases hk : k < l.length
  · obtain ⟨b, off, u, rfl, hb, hu, hc⟩ := h.rd.one hk
    rw [byts_get hk] at hu
    obtain rfl : Value.int .u8 (l.getD k 0) = u := by injection hu
    obtain ⟨x, hx⟩ : ∃ x, x = l.getD k 0 := ⟨_, rfl⟩
    have hxr := hl.get k
    rw [← hx] at hc hxr
    have hbi : b ≠ ib := hA (by omega) b off rfl
    have e1 : (min k l.length : Nat) = k := by omega
    rw [e1] at ci
    have e2 := World.cell?_setCell_same w ⟨ib, 0, none⟩ (.int .i64 ((k : Int) + 1)) ci
    have HX := Lib.hid hx
    clear h hx hu e1
    go_enter Try.func70, Try.ntmps70
    go_wp2
    go_ret
    have K : Keep [ib] w (w.setCell ⟨ib, 0, none⟩ (.int .i64 ((k : Int) + 1))) := (Keep.refl _ _).setCell (.inl (by simp)) _
    refine ⟨by rw [draw, ← HX.out]; rfl, ⟨?_, (K.block _ zl (by simp; omega)).trans H.out.lst, K.rd H.out.rd fun b' off' e => by have := hA (by omega) b' off' e; simpa using this⟩, K, by simp [World.setCell]⟩
    rw [heap_set H.out.cnt, show min (k + 1) l.length = k + 1 from by omega]
    rfl
  · have e1 : (min k l.length : Nat) = l.length := by omega
    rw [e1] at ci
    have HE := Lib.hid e1
    clear h e1
    go_enter Try.func70, Try.ntmps70
    go_wp2
    go_ret
    refine ⟨?_, ⟨?_, H.out.lst, H.out.rd⟩, Keep.refl _ _, rfl⟩
    · rw [draw, List.getD_eq_getElem?_getD, List.getElem?_eq_none (by omega)]; simp
    · rw [H.out.cnt, show min (k + 1) l.length = min k l.length from by omega]

theorem Drawn_any (A : Option Addr) (c : Nat) (l : List Int) (w : World) (hr : Rd w 1 A l.length (byts l)) :
    Calls Try.prog 16 #[.slice A l.length c] w fun e w' => e = .returned (.func (.func 70) #[] #[.pointer (some ⟨w.heap.size + 1, 0, none⟩), .pointer (some ⟨w.heap.size, 0, none⟩)]) ∧ DrawSt w' (w.heap.size + 1) w.heap.size A c l 0 ∧ Below w.heap.size w w' ∧ w'.heap.size = w.heap.size + 2 := by
  go_enter Try.func16, Try.ntmps16
  go_wp2
  go_ret
  have b : Below w.heap.size w ((w.alloc (.cells #[.slice A l.length c] 22)).alloc (.cells #[.int .i64 0] 3)) := ((Below.refl _ _).alloc (Nat.le_refl _) _).alloc (by simp) _
  refine ⟨rfl, ⟨?_, heap_alloc' (heap_alloc_new _ _) _, hr.below b⟩, b, by simp⟩
  have := heap_alloc_new (w.alloc (.cells #[.slice A l.length c] 22)) (.cells #[.int .i64 0] 3)
  rw [World.size_alloc] at this
  rw [this]; simp
end Go.Proofs.Ythmldeningpjbaa
/- The leaves of layer 8: within, the closures on steps, upTo, vessels. -/
namespace Go.Proofs.Ythmldeningpjbaa
open Go Go.RowKit Sp

theorem within_any (n lo hi : Int) (w : World) :
    Calls Try.prog 118 #[.int .i64 n, .int .i64 lo, .int .i64 hi] w fun e w' => e = .returned (.bool (within n lo hi)) ∧ w = w' := by
  go_enter Try.func118, Try.ntmps118
  go_wp2
  all_goals (go_ret; refine ⟨?_, rfl⟩; simp [within]; try omega)

def stc (s : Stp) : List Value := [.int .i64 s.cls, .int .i64 s.ton, .int .i64 s.up, .int .i64 s.dn]
def stcs (l : List Stp) : List Value := l.flatMap stc

theorem stcs_get {l : List Stp} {k : Nat} (hk : k < l.length) : (stcs l)[k*4]? = some (.int .i64 l[k].cls) ∧ (stcs l)[k*4+1]? = some (.int .i64 l[k].ton) ∧ (stcs l)[k*4+2]? = some (.int .i64 l[k].up) ∧ (stcs l)[k*4+3]? = some (.int .i64 l[k].dn) := by
  induction l generalizing k with
  | nil => simp at hk
  | cons s l ih =>
    cases k with
    | zero => simp [stcs, stc]
    | succ k =>
      have h4 : ∀ j, (stcs (s :: l))[4 + j]? = (stcs l)[j]? := fun j => by
        simp only [stcs, List.flatMap_cons, stc]
        rw [List.getElem?_append_right (by simp)]
        simp
      have e : ∀ j, (k+1)*4 + j = 4 + (k*4 + j) := fun j => by omega
      have e0 : (k+1)*4 = 4 + k*4 := by omega
      have hk' : k < l.length := by simpa using hk
      rw [e, e, e, e0, h4, h4, h4, h4]
      simpa using ih hk'

/-- the policy p lies in block pb -/
def PolAt (w : World) (pb : Nat) (p : Pol) : Prop := ∃ A c, w.heap[pb]? = some (.cells #[.slice A p.steps.length c, .int .i64 p.hold, .int .i64 p.calm, .int .i64 p.notice, .int .i64 p.grace] 135 (0, 0)) ∧ p.steps.length ≤ c ∧ c ≤ maxLen ∧ Rd w 4 A p.steps.length (stcs p.steps)

theorem up_any (s : Stp) (w : World) :
    Calls Try.prog 150 #[.agg #[.int .i64 s.cls, .int .i64 s.ton, .int .i64 s.up, .int .i64 s.dn]] w fun e w' => e = .returned (.int .i64 s.up) ∧ Below w.heap.size w w' := by
  go_enter Try.func150, Try.ntmps150
  go_wp2
  go_ret
  exact ⟨rfl, (Below.refl _ _).alloc (Nat.le_refl _) _⟩

theorem dn_any (s : Stp) (w : World) :
    Calls Try.prog 151 #[.agg #[.int .i64 s.cls, .int .i64 s.ton, .int .i64 s.up, .int .i64 s.dn]] w fun e w' => e = .returned (.int .i64 s.dn) ∧ Below w.heap.size w w' := by
  go_enter Try.func151, Try.ntmps151
  go_wp2
  go_ret
  exact ⟨rfl, (Below.refl _ _).alloc (Nat.le_refl _) _⟩

theorem upToN_succ (l : List Int) (sev : Int) (k : Nat) : upToN l sev (k + 1) = if l.getD k 0 ≤ sev then (k : Int) else upToN l sev k := rfl
set_option maxHeartbeats 400000 in
theorem upToUp_any (pb : Nat) (p : Pol) (sev : Int) (w : World) (hp : PolAt w pb p) :
    Calls Try.prog 149 #[.agg #[.pointer (some ⟨pb, 0, none⟩)], .int .i64 sev, .func (.func 150) #[] #[]] w fun e w' => e = .returned (.int .i64 (upTo (p.steps.map (·.up)) sev)) ∧ Below w.heap.size w w' := by
  obtain ⟨A, c, hh, hnc, hcm, hr⟩ := hp
  unfold maxLen at hcm
  have hlt : pb < w.heap.size := (Array.getElem?_eq_some_iff.1 hh).1
  have h0 : w.cell? ⟨pb, 0, none⟩ = some (.slice A p.steps.length c) := cell_of_row w pb 0 _ _ _ hh
  clear hh
  go_enter Try.func149, Try.ntmps149
  go_wp2
  go_loopw [7, 16] (fun r i wr => ∃ k : Nat, k ≤ p.steps.length ∧ i = .int .i64 k ∧ r = .int .i64 (upToN (p.steps.map (·.up)) sev k) ∧ Below w.heap.size w wr)
    (fun _ i _ => p.steps.length - (intOf i).toNat)
  case atStart => exact ⟨0, Nat.zero_le _, rfl, rfl, (Below.refl _ _).alloc (Nat.le_refl _) _⟩
  case round =>
    obtain ⟨k, hk, rfl, rfl, hB⟩ := hrel
    by_cases hlt : k < p.steps.length
    · obtain ⟨b, off, rfl, hb, hc⟩ := hr.2 (by omega)
      obtain ⟨s0, s1, s2, s3⟩ := stcs_get hlt
      have bc := (bcell hB).1
      have c0 := (bc b (off + k*4) hb).trans (hc _ _ s0)
      have c1 := (bc b (off + k*4 + 1) hb).trans (hc _ _ s1)
      have c2 := (bc b (off + k*4 + 2) hb).trans (hc _ _ s2)
      have c3 := (bc b (off + k*4 + 3) hb).trans (hc _ _ s3)
      clear hc s0 s1 s2 s3 bc
      go_wp2_with (go_at_call 150; refine (up_any _ _).mono ?_; rintro e w' ⟨rfl, hB1⟩)
      all_goals
        have hB2 : Below w.heap.size w w' := (((hB.alloc hB.size _)).trans (hB1.mono (by have := hB.size; simp; omega)))
        have hsz := hB.size
        go_roundw
        case rel => exact ⟨k + 1, by omega, by go_num, by rw [upToN_succ]; simp [*] ; try omega, hB2⟩
        case measure => simp [intOf]; omega
    · obtain rfl : k = p.steps.length := by omega
      go_wp2
      go_ret
      exact ⟨by simp [upTo], hB⟩
set_option maxHeartbeats 400000 in
theorem upToDn_any (pb : Nat) (p : Pol) (sev : Int) (w : World) (hp : PolAt w pb p) :
    Calls Try.prog 149 #[.agg #[.pointer (some ⟨pb, 0, none⟩)], .int .i64 sev, .func (.func 151) #[] #[]] w fun e w' => e = .returned (.int .i64 (upTo (p.steps.map (·.dn)) sev)) ∧ Below w.heap.size w w' := by
  obtain ⟨A, c, hh, hnc, hcm, hr⟩ := hp
  unfold maxLen at hcm
  have hlt : pb < w.heap.size := (Array.getElem?_eq_some_iff.1 hh).1
  have h0 : w.cell? ⟨pb, 0, none⟩ = some (.slice A p.steps.length c) := cell_of_row w pb 0 _ _ _ hh
  clear hh
  go_enter Try.func149, Try.ntmps149
  go_wp2
  go_loopw [7, 16] (fun r i wr => ∃ k : Nat, k ≤ p.steps.length ∧ i = .int .i64 k ∧ r = .int .i64 (upToN (p.steps.map (·.dn)) sev k) ∧ Below w.heap.size w wr)
    (fun _ i _ => p.steps.length - (intOf i).toNat)
  case atStart => exact ⟨0, Nat.zero_le _, rfl, rfl, (Below.refl _ _).alloc (Nat.le_refl _) _⟩
  case round =>
    obtain ⟨k, hk, rfl, rfl, hB⟩ := hrel
    by_cases hlt : k < p.steps.length
    · obtain ⟨b, off, rfl, hb, hc⟩ := hr.2 (by omega)
      obtain ⟨s0, s1, s2, s3⟩ := stcs_get hlt
      have bc := (bcell hB).1
      have c0 := (bc b (off + k*4) hb).trans (hc _ _ s0)
      have c1 := (bc b (off + k*4 + 1) hb).trans (hc _ _ s1)
      have c2 := (bc b (off + k*4 + 2) hb).trans (hc _ _ s2)
      have c3 := (bc b (off + k*4 + 3) hb).trans (hc _ _ s3)
      clear hc s0 s1 s2 s3 bc
      go_wp2_with (go_at_call 151; refine (dn_any _ _).mono ?_; rintro e w' ⟨rfl, hB1⟩)
      all_goals
        have hB2 : Below w.heap.size w w' := (((hB.alloc hB.size _)).trans (hB1.mono (by have := hB.size; simp; omega)))
        have hsz := hB.size
        go_roundw
        case rel => exact ⟨k + 1, by omega, by go_num, by rw [upToN_succ]; simp [*] ; try omega, hB2⟩
        case measure => simp [intOf]; omega
    · obtain rfl : k = p.steps.length := by omega
      go_wp2
      go_ret
      exact ⟨by simp [upTo], hB⟩

def veCells (v : Ves) : List Value := [.int .i64 v.cls, .int .i64 v.ton, .bool v.esc]

theorem right_any (v : Ves) (w : World) :
    Calls Try.prog 135 #[.agg #[.int .i64 v.cls, .int .i64 v.ton, .bool v.esc]] w fun e w' => e = .returned (.bool (vright v)) ∧ Below w.heap.size w w' := by
  go_enter Try.func135, Try.ntmps135
  go_wp2_with (go_at_call 118; refine (within_any _ _ _ _).mono ?_; rintro e w' ⟨rfl, rfl⟩)
  all_goals (go_ret; exact ⟨by simp_all [vright], (Below.refl _ _).alloc (Nat.le_refl _) _⟩)

theorem fulfils_any (v : Ves) (s : Stp) (w : World) (h1 : -1000000000 ≤ v.cls ∧ v.cls ≤ 1000000000) :
    Calls Try.prog 143 #[.agg #[.int .i64 v.cls, .int .i64 v.ton, .bool v.esc], .agg #[.int .i64 s.cls, .int .i64 s.ton, .int .i64 s.up, .int .i64 s.dn]] w fun e w' => e = .returned (.bool (fulfils v s)) ∧ Below w.heap.size w w' := by
  obtain ⟨h1, h2⟩ := h1
  cases hv : v.esc
  · go_enter Try.func143, Try.ntmps143
    go_wp2
    all_goals (go_ret; refine ⟨by simp_all [fulfils]; try omega, ?_⟩; exact ((Below.refl _ _).alloc (Nat.le_refl _) _).alloc (by simp) _)
  · go_enter Try.func143, Try.ntmps143
    go_wp2
    all_goals (go_ret; refine ⟨by simp_all [fulfils]; try omega, ?_⟩; exact ((Below.refl _ _).alloc (Nat.le_refl _) _).alloc (by simp) _)
end Go.Proofs.Ythmldeningpjbaa
