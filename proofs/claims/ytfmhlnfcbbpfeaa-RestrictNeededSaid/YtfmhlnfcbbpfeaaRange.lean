/- Plain: every step that is decided or in force is one of the policy's. -/
import Derived.Test.YtfmhlnfcbbpfeaaSpecB
namespace Go.Proofs.Ytfmhlnfcbbpfeaa.Sp

theorem upToN_range (l : List Int) (sev : Int) : ∀ n, 0 ≤ upToN l sev n ∧ (0 < n → upToN l sev n < n)
  | 0 => ⟨Int.le_refl _, fun h => absurd h (by omega)⟩
  | n + 1 => by
    have ih := upToN_range l sev n
    unfold upToN
    split
    · exact ⟨by omega, fun _ => by omega⟩
    · refine ⟨ih.1, fun _ => ?_⟩
      rcases Nat.eq_zero_or_pos n with h | h
      · subst h; simp [upToN]
      · have := ih.2 h; omega

theorem upTo_range (l : List Int) (sev : Int) (h : l ≠ []) : 0 ≤ upTo l sev ∧ upTo l sev < l.length := by
  have := upToN_range l sev l.length
  exact ⟨this.1, this.2 (by cases l with | nil => exact absurd rfl h | cons _ _ => simp)⟩

/-- what a window keeps are numbers that came -/
theorem pushD_mem {wide at_ : Int} {gr : Bool} {D : List (Int × Int)} {x : Int} {p : Int × Int} (h : p ∈ pushD wide at_ gr D x) : p ∈ D ∨ p = (x, at_) := by
  have h1 : p ∈ D.take (popLen gr x (D.map (·.1)) D.length) ++ [(x, at_)] := by
    simp only [pushD] at h
    split at h
    · exact List.mem_of_mem_tail h
    · exact h
  rcases List.mem_append.1 h1 with h1 | h1
  · exact .inl (List.mem_of_mem_take h1)
  · exact .inr (by simpa using h1)

theorem pushD_ne_nil {wide at_ : Int} {gr : Bool} {D : List (Int × Int)} {x : Int} (hw : 1 ≤ wide) : pushD wide at_ gr D x ≠ [] := by
  simp only [pushD]
  split
  · rename_i h
    cases hD : D.take (popLen gr x (D.map (·.1)) D.length) with
    | nil => rw [hD] at h; simp at h; omega
    | cons p r => simp
  · simp

theorem headV_mem {D : List (Int × Int)} (h : D ≠ []) : ∃ p ∈ D, headV D = p.1 := by
  cases D with
  | nil => exact absurd rfl h
  | cons p r => exact ⟨p, by simp, rfl⟩

theorem dq_mem {wide : Int} {gr : Bool} {xs : List Int} : ∀ {k : Nat} {p : Int × Int}, p ∈ dq wide gr xs k → ∃ i : Nat, i < k ∧ p = (xs.getD i 0, (i : Int))
  | 0, p, h => by simp [dq] at h
  | k + 1, p, h => by
    rcases pushD_mem h with h | h
    · obtain ⟨i, hi, e⟩ := dq_mem h
      exact ⟨i, by omega, e⟩
    · exact ⟨k, by omega, h⟩

theorem slide_all {wide : Int} {gr : Bool} {xs : List Int} (hw : 1 ≤ wide) {P : Int → Prop} (h : ∀ x ∈ xs, P x) : ∀ y ∈ slide wide gr xs, P y := by
  intro y hy
  simp only [slide, slideN, List.mem_map, List.mem_range] at hy
  obtain ⟨k, hk, rfl⟩ := hy
  obtain ⟨p, hp, e⟩ := headV_mem (D := dq wide gr xs (k + 1)) (pushD_ne_nil hw)
  obtain ⟨i, hi, rfl⟩ := dq_mem hp
  rw [e]
  have hil : i < xs.length := by omega
  rw [List.getD_eq_getElem?_getD, List.getElem?_eq_getElem hil]
  exact h _ (List.getElem_mem hil)

/-- a step of the policy -/
def IsStep (p : Pol) (y : Int) : Prop := 0 ≤ y ∧ y < p.steps.length

theorem raisedS_range {p : Pol} (hs : p.steps ≠ []) (days : List Int) : ∀ y ∈ raisedS p days, IsStep p y := by
  intro y hy
  simp only [raisedS, List.mem_map] at hy
  obtain ⟨k, _, rfl⟩ := hy
  have := upTo_range (ups p) (if (k : Int) + 1 < p.hold then 0 else (slide p.hold false days).getD k 0) (by simpa [ups] using hs)
  simpa [ups, raisedAt, IsStep] using this
theorem keptS_range {p : Pol} (hs : p.steps ≠ []) (days : List Int) : ∀ y ∈ keptS p days, IsStep p y := by
  intro y hy
  simp only [keptS, List.mem_map] at hy
  obtain ⟨k, _, rfl⟩ := hy
  have := upTo_range (dns p) ((slide p.calm true days).getD k 0) (by simpa [dns] using hs)
  simpa [dns, keptAt, IsStep] using this
theorem getD_all {P : Int → Prop} {l : List Int} (h : ∀ y ∈ l, P y) (h0 : P 0) (k : Nat) : P (l.getD k 0) := by
  rw [List.getD_eq_getElem?_getD]
  cases hk : l[k]? with
  | none => exact h0
  | some y => exact h y (List.mem_of_getElem? hk)
theorem isStep_zero {p : Pol} (hs : p.steps ≠ []) : IsStep p 0 := ⟨Int.le_refl _, by cases h : p.steps with | nil => exact absurd h hs | cons _ _ => simp⟩
theorem decN_range {p : Pol} (hs : p.steps ≠ []) (days : List Int) : ∀ k, IsStep p (decN (raisedS p days) (keptS p days) k)
  | 0 => isStep_zero hs
  | k + 1 => by
    have h1 := getD_all (raisedS_range hs days) (isStep_zero hs) k
    have h2 := getD_all (keptS_range hs days) (isStep_zero hs) k
    have h3 := decN_range hs days k
    unfold decN
    unfold IsStep at *
    omega
theorem decidedS_range {p : Pol} (hs : p.steps ≠ []) (days : List Int) : ∀ y ∈ decidedS p days, IsStep p y := by
  intro y hy
  simp only [decidedS, decL, List.mem_map] at hy
  obtain ⟨k, _, rfl⟩ := hy
  exact decN_range hs days (k + 1)
theorem forceS_range {p : Pol} (hs : p.steps ≠ []) (hn : 0 ≤ p.notice) (days : List Int) : ∀ y ∈ forceS p days, IsStep p y := by
  intro y hy
  refine slide_all (by omega) ?_ y (List.mem_of_mem_drop hy)
  intro x hx
  rcases List.mem_append.1 hx with h | h
  · rw [List.eq_of_mem_replicate h]; exact isStep_zero hs
  · exact decidedS_range hs days x h

/-- on which days a vessel may pass -/
def passesS (p : Pol) (days : List Int) (v : Ves) : List Bool := (forceS p days).map fun k => fulfils v (p.steps.getD k.toNat default)
theorem passesS_length (p : Pol) (days : List Int) (v : Ves) : (passesS p days v).length = days.length := by simp [passesS, forceS_length]
end Go.Proofs.Ytfmhlnfcbbpfeaa.Sp
