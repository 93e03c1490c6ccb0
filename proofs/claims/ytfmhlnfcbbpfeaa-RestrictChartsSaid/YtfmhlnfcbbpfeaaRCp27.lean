/- Plain law of RestrictShown: what days show is decided; a witness is there just if a step is decided. -/
import Derived.Test.YtfmhlnfcbbpfeaaRCp24
import Derived.Test.YtfmhlnfcbbpfeaaRCp9
import Derived.Test.YtfmhlnfcbbpfeaaRCp8
import Derived.IntWalk
import Derived.Test.YtfmhlnfcbbpfeaaRCp26
import Derived.Deep.DeepCutAuto
set_option linter.unusedVariables false
namespace Go.Proofs.Ytfmhlnfcbbpfeaa
open Sp

theorem raised_ge {p : Pol} {days : List Int} (hh : 1 ≤ p.hold) {j z : Nat} (hj : j < p.steps.length) (hz : z < days.length) (hz' : p.hold ≤ (z : Int) + 1) (h : ∀ i : Nat, i ≤ z → (z : Int) + 1 - p.hold ≤ i → (stp p j).up ≤ days.getD i 0) : (j : Int) ≤ (raisedS p days).getD z 0 := by
  rw [raised_get p days hz, if_neg (by omega)]
  refine upTo_ge (by rw [ups_length]; exact hj) ?_
  rw [ups_get hj]
  exact le_slide hh days hz h
theorem raised_why {p : Pol} {days : List Int} (hc : checkS p = 0) {j z : Nat} (hj0 : 0 < j) (hj : j < p.steps.length) (hz : z < days.length) (h : (j : Int) ≤ (raisedS p days).getD z 0) : p.hold ≤ (z : Int) + 1 ∧ ∀ i : Nat, i ≤ z → (z : Int) + 1 - p.hold ≤ i → (stp p j).up ≤ days.getD i 0 := by
  have ck := check_ok hc
  rw [raised_get p days hz] at h
  have h0 : (stp p 0).up = 0 := by unfold stp; rw [check_first hc]
  by_cases hs : (z : Int) + 1 < p.hold
  · rw [if_pos hs] at h
    exfalso
    rcases upTo_is (ups p) 0 with e | ⟨i, h1, h2, h3⟩
    · omega
    · rw [ups_length] at h1
      rw [ups_get h1] at h3
      have := stp_grow hc (i := 0) (j := i) (by omega) h1
      have := this.2.2.2.2 (by omega)
      omega
  · rw [if_neg hs] at h
    refine ⟨by omega, fun i hi hi' => ?_⟩
    rcases upTo_is (ups p) ((slide p.hold false days).getD z 0) with e | ⟨y, h1, h2, h3⟩
    · omega
    · rw [ups_length] at h1
      rw [ups_get h1] at h3
      have := (stp_grow hc (i := j) (j := y) (by omega) h1).2.2.1
      have := slide_least ck.2.2.1 days hz hi hi'
      omega

theorem dec_ge {p : Pol} {days : List Int} {j : Int} {z : Nat} (h : j ≤ (raisedS p days).getD z 0) : ∀ {d : Nat}, z ≤ d → d < days.length → (∀ n : Nat, z < n → n ≤ d → j ≤ (keptS p days).getD n 0) → j ≤ (decidedS p days).getD d 0
  | 0, hz, hd, hk => by
    obtain rfl : z = 0 := by omega
    rw [dec_get p days hd, decN_succ]; omega
  | d + 1, hz, hd, hk => by
    rw [dec_get p days hd, decN_succ]
    by_cases e : z = d + 1
    · subst e; omega
    · have h1 := dec_ge h (d := d) (by omega) (by omega) (fun n h1 h2 => hk n h1 (by omega))
      rw [dec_get p days (by omega)] at h1
      have h2 := hk (d + 1) (by omega) (by omega)
      omega
theorem decN_why (up kp : List Int) {s : Int} (hs : 0 < s) : ∀ {k : Nat}, s ≤ decN up kp (k + 1) → ∃ h, h ≤ k ∧ s ≤ up.getD h 0 ∧ ∀ n : Nat, h < n → n ≤ k → s ≤ kp.getD n 0
  | k, h => by
    rw [decN_succ] at h
    by_cases h1 : s ≤ up.getD k 0
    · exact ⟨k, Nat.le_refl _, h1, fun n h2 h3 => absurd h2 (by omega)⟩
    · cases k with
      | zero => exfalso; simp only [decN] at h; omega
      | succ k =>
        obtain ⟨y, h2, h3, h4⟩ := decN_why up kp hs (k := k) (by omega)
        refine ⟨y, by omega, h3, fun n h5 h6 => ?_⟩
        by_cases e : n = k + 1
        · subst e; omega
        · exact h4 n h5 (by omega)

theorem shows_iff {p : Pol} {days kp : List Int} {d j a z : Nat} (hz : (z : Int) - a + 1 = p.hold) (hzd : z ≤ d) (haz : a ≤ z + 1) (had : a ≤ d) : showsS p days kp d j a z = true ↔ (∀ i : Nat, a ≤ i → i ≤ z → (stp p j).up ≤ days.getD i 0) ∧ ∀ n : Nat, z < n → n ≤ d → (j : Int) ≤ kp.getD n 0 := by
  unfold showsS
  rw [if_neg (by omega), Bool.and_eq_true, allGe_iff, allGe_iff]
  have n1 : ((a : Int)).toNat = a := by omega
  have n2 : ((z : Int) + 1 - (a : Int)).toNat = z + 1 - a := by omega
  have n3 : ((z : Int) + 1).toNat = z + 1 := by omega
  have n4 : ((d : Int) - (z : Int)).toNat = d - z := by omega
  have n5 : ((j : Int)).toNat = j := by omega
  rw [n1, n2, n3, n4, n5]
  constructor
  · rintro ⟨h1, h2⟩
    refine ⟨fun i h3 h4 => ?_, fun n h3 h4 => ?_⟩
    · have := h1 (i - a) (by omega)
      rwa [show a + (i - a) = i from by omega] at this
    · have := h2 (n - (z + 1)) (by omega)
      rwa [show z + 1 + (n - (z + 1)) = n from by omega] at this
  · rintro ⟨h1, h2⟩
    exact ⟨fun k hk => h1 _ (by omega) (by omega), fun k hk => h2 _ (by omega) (by omega)⟩
theorem shows_not {p : Pol} {days kp : List Int} {d j a z : Nat} (h : d < z) : showsS p days kp d j a z = false := by
  unfold showsS
  rw [if_pos (by omega)]
/-- what days show is decided -/
theorem shown_dec {p : Pol} {days : List Int} (hc : checkS p = 0) {d j a z : Nat} (hj : j < p.steps.length) (hd : d < days.length) (hz : (z : Int) - a + 1 = p.hold) (h : showsS p days (keptS p days) d j a z = true) :
    (j : Int) ≤ (decidedS p days).getD d 0 ∧ ∀ n : Nat, z ≤ n → n ≤ d → showsS p days (keptS p days) n j a z = true ∧ (j : Int) ≤ (decidedS p days).getD n 0 := by
  have ck := check_ok hc
  have hzd : z ≤ d := by
    rcases Nat.lt_or_ge d z with h1 | h1
    · rw [shows_not h1] at h; cases h
    · exact h1
  rw [shows_iff hz hzd (by omega) (by omega)] at h
  have hr : (j : Int) ≤ (raisedS p days).getD z 0 := raised_ge ck.2.2.1 hj (by omega) (by omega) fun i h1 h2 => h.1 i (by omega) h1
  have hn : ∀ n : Nat, z ≤ n → n ≤ d → (j : Int) ≤ (decidedS p days).getD n 0 := fun n h1 h2 => dec_ge hr h1 (by omega) fun y h3 h4 => h.2 y h3 (by omega)
  refine ⟨hn d hzd (Nat.le_refl _), fun n h1 h2 => ⟨?_, hn n h1 h2⟩⟩
  rw [shows_iff hz h1 (by omega) (by omega)]
  exact ⟨h.1, fun y h3 h4 => h.2 y h3 (by omega)⟩

theorem wit_spec {p : Pol} {days kp : List Int} {d s : Int} : ∀ {n : Nat} {w : Int × Int}, wit p days kp d s n = some w → showsS p days kp d s w.1 w.2 = true
  | 0, w, h => by cases h
  | n + 1, w, h => by
    unfold wit at h
    split at h
    · rename_i hs
      injection h with h
      subst h
      exact hs
    · exact wit_spec h
theorem wit_some {p : Pol} {days kp : List Int} {d s : Int} {z : Nat} (h : showsS p days kp d s ((z : Int) - p.hold + 1) z = true) : ∀ {n : Nat}, z < n → (wit p days kp d s n).isSome = true
  | 0, hz => absurd hz (by omega)
  | n + 1, hz => by
    unfold wit
    split
    · rfl
    · rename_i hs
      by_cases e : z = n
      · subst e; exact absurd h hs
      · exact wit_some h (by omega)
/-- a witness is there where a step is decided, and it shows the step -/
theorem witness_is {p : Pol} {days : List Int} (hc : checkS p = 0) {d j : Nat} (hj0 : 0 < j) (hj : j < p.steps.length) (hd : d < days.length) (h : (decidedS p days).getD d 0 = (j : Int)) :
    ∃ w, wit p days (keptS p days) d j (d + 1) = some w ∧ showsS p days (keptS p days) d j w.1 w.2 = true := by
  have ck := check_ok hc
  have h1 : (j : Int) ≤ decN (raisedS p days) (keptS p days) (d + 1) := by rw [← dec_get p days hd, h]; exact Int.le_refl _
  obtain ⟨z, h2, h3, h4⟩ := decN_why _ _ (by omega) h1
  obtain ⟨h5, h6⟩ := raised_why hc hj0 hj (by omega) h3
  obtain ⟨a, ha⟩ : ∃ a : Nat, (z : Int) - p.hold + 1 = a := ⟨((z : Int) - p.hold + 1).toNat, by omega⟩
  have hs : showsS p days (keptS p days) d j ((z : Int) - p.hold + 1) z = true := by
    rw [ha, shows_iff (by omega) h2 (by omega) (by omega)]
    exact ⟨fun i h7 h8 => h6 i h8 (by omega), h4⟩
  have h7 := wit_some hs (n := d + 1) (by omega)
  obtain ⟨w, hw⟩ := Option.isSome_iff_exists.1 h7
  exact ⟨w, hw, wit_spec hw⟩
end Go.Proofs.Ytfmhlnfcbbpfeaa
/- rules.shows where the span's end is very small (its length wraps): false -/
namespace Go.Proofs.Ytfmhlnfcbbpfeaa
open Go Go.RowKit Sp
set_option linter.unusedVariables false

theorem wrap_low {lo hi h : Int} (l0 : 0 ≤ lo) (l1 : lo ≤ 100000) (h0 : -9223372036854775808 ≤ hi) (h1 : hi < -4000000000000000000) (h2 : 1 ≤ h) (h3 : h ≤ 1000) : (wrap64 (wrap64 (hi - lo) + 1) != h) = true := by
  simp only [wrap64, bne_iff_ne, ne_eq]
  omega

set_option maxRecDepth 100000 in
set_option maxHeartbeats 2000000 in
theorem shows_low (pb : Nat) (p : Pol) (A : Option Addr) (c : Nat) (days : List Int) (Ak : Option Addr) (ck : Nat) (kp : List Int) (d j : Nat) (lo hi : Int) (w : World) (hp : PolAt w pb p) (hh : 1 ≤ p.hold ∧ p.hold ≤ 1000)
    (hl : days.length ≤ 100000) (hd : d < days.length) (hhi : hi < -4000000000000000000) (hh0 : -9223372036854775808 ≤ hi) :
    Calls Try.prog 85 #[.agg #[.pointer (some ⟨pb, 0, none⟩)], .slice A days.length c, .slice Ak days.length ck, .int .i64 d, .int .i64 j, .agg #[.int .i64 lo, .int .i64 hi]] w
      fun e w' => e = .returned (.bool (showsS p days kp d j lo hi)) ∧ Below w.heap.size w w' := by
  have b0 : ∀ o o', Below w.heap.size w ((w.alloc o).alloc o') := fun o o' => ((Below.refl _ _).alloc (Nat.le_refl _) _).alloc (by simp) _
  have hf : showsS p days kp d j lo hi = false := by rw [showsS, if_pos (by omega)]
  obtain ⟨h, hh1⟩ : ∃ h, h = p.hold := ⟨_, rfl⟩
  have hs1 : w.cell? ⟨pb, 1, none⟩ = some (.int .i64 h) := by obtain ⟨Ap, cp, hh, _⟩ := hp; rw [cell_of_heap hh, hh1]; rfl
  have hpb : pb < w.heap.size := by obtain ⟨Ap, cp, hh, _⟩ := hp; exact heap_lt hh
  rw [← hh1] at hh
  rw [hf]
  clear hh1 hp hf
  have d2 : decide ((d : Int) < hi) = false := by simp; omega
  by_cases g1 : lo < 0
  · have d1 : decide (lo < 0) = true := by simp [g1]
    go_enter Try.func85, Try.ntmps85
    go_upto_region 1 with fail
    go_quiet (fail)
    go_wp2_with fail
    go_ret
    exact ⟨rfl, below_drewN (b0 _ _) _⟩
  · have d1 : decide (lo < 0) = false := by simp [g1]
    by_cases g3 : (d : Int) < lo
    · have d3 : decide ((d : Int) < lo) = true := by simp [g3]
      go_enter Try.func85, Try.ntmps85
      go_upto_region 1 with fail
      go_quiet (fail)
      go_wp2_with fail
      go_ret
      exact ⟨rfl, below_drewN (b0 _ _) _⟩
    · have d3 : decide ((d : Int) < lo) = false := by simp [g3]
      have d4 := wrap_low (lo := lo) (hi := hi) (h := h) (by omega) (by omega) hh0 hhi hh.1 hh.2
      clear hhi hh0 g1 g3 hh
      go_enter Try.func85, Try.ntmps85
      go_upto_region 1 with fail
      go_quiet (fail)
      go_wp2_with fail
      go_ret
      exact ⟨rfl, below_drewN (b0 _ _) _⟩

theorem shows_all (pb : Nat) (p : Pol) (A : Option Addr) (c : Nat) (days : List Int) (Ak : Option Addr) (ck : Nat) (kp : List Int) (d j : Nat) (lo hi : Int) (w : World) (hp : PolAt w pb p) (hh : 1 ≤ p.hold ∧ p.hold ≤ 1000)
    (hr : Rd w 1 A days.length (ints days)) (hc : days.length ≤ c ∧ c ≤ 9223372036854775807) (hrk : Rd w 1 Ak days.length (ints kp)) (hck : days.length ≤ ck ∧ ck ≤ 9223372036854775807) (hl : days.length ≤ 100000) (hd : d < days.length) (hj : j < p.steps.length) (hhi : -9223372036854775808 ≤ hi) :
    Calls Try.prog 85 #[.agg #[.pointer (some ⟨pb, 0, none⟩)], .slice A days.length c, .slice Ak days.length ck, .int .i64 d, .int .i64 j, .agg #[.int .i64 lo, .int .i64 hi]] w
      fun e w' => e = .returned (.bool (showsS p days kp d j lo hi)) ∧ Below w.heap.size w w' := by
  by_cases h : hi < -4000000000000000000
  · exact shows_low pb p A c days Ak ck kp d j lo hi w hp hh hl hd h hhi
  · exact shows_any pb p A c days Ak ck kp d j lo hi w hp hh hr hc hrk hck hl hd hj (by omega)
end Go.Proofs.Ytfmhlnfcbbpfeaa
/- restrict.Shows -/
namespace Go.Proofs.Ytfmhlnfcbbpfeaa
open Go Go.RowKit Sp
set_option linter.unusedVariables false

/-- the error of Shows -/
def shE (p : Pol) (days : List Int) (day step : Int) : Int := if startS p days ≠ 0 then startS p days else if !within day 0 ((days.length : Int) - 1) then 6 else if !within step 0 ((p.steps.length : Int) - 1) then 1 else 0
def shB (p : Pol) (days : List Int) (day step lo hi : Int) : Bool := if shE p days day step = 0 then showsS p days (keptS p days) day step lo hi else false
theorem sh_start {p : Pol} {days : List Int} {day step : Int} (h : startS p days ≠ 0) : shE p days day step = startS p days := by unfold shE; rw [if_pos h]
theorem sh_day {p : Pol} {days : List Int} {day step : Int} (h : startS p days = 0) (h1 : within day 0 ((days.length : Int) - 1) = false) : shE p days day step = 6 := by unfold shE; rw [if_neg (fun f => f h), h1]; rfl
theorem sh_step {p : Pol} {days : List Int} {day step : Int} (h : startS p days = 0) (h1 : within day 0 ((days.length : Int) - 1) = true) (h2 : within step 0 ((p.steps.length : Int) - 1) = false) : shE p days day step = 1 := by unfold shE; rw [if_neg (fun f => f h), h1, h2]; rfl
theorem sh_ok {p : Pol} {days : List Int} {day step : Int} (h : startS p days = 0) (h1 : within day 0 ((days.length : Int) - 1) = true) (h2 : within step 0 ((p.steps.length : Int) - 1) = true) : shE p days day step = 0 := by unfold shE; rw [if_neg (fun f => f h), h1, h2]; rfl
def ShowsPost (w : World) (p : Pol) (days : List Int) (day step lo hi : Int) (e : Ending) (w' : World) : Prop :=
  e = .returned (.tuple #[.bool (shB p days day step lo hi), .int .i64 (shE p days day step)]) ∧ Below w.heap.size w w'

set_option maxRecDepth 100000 in
set_option maxHeartbeats 4000000 in
theorem Shows_all (As : Option Addr) (cs : Nat) (p : Pol) (A : Option Addr) (c : Nat) (days : List Int) (day step lo hi : Int) (w : World) (hp : PolV w As cs p) (hr : Rd w 1 A days.length (ints days)) (hcc : days.length ≤ c ∧ c ≤ 9223372036854775807) (hhi : -9223372036854775808 ≤ hi) :
    Calls Try.prog 20 #[.agg #[.slice As p.steps.length cs, .int .i64 p.hold, .int .i64 p.calm, .int .i64 p.notice, .int .i64 p.grace], .slice A days.length c, .int .i64 day, .int .i64 step, .agg #[.int .i64 lo, .int .i64 hi]] w (ShowsPost w p days day step lo hi) := by
  have hm : days.length ≤ 9223372036854775807 := by omega
  obtain ⟨er, her⟩ : ∃ er, er = startS p days := ⟨_, rfl⟩
  have b0 : ∀ o o', Below w.heap.size w ((w.alloc o).alloc o') := fun o o' => ((Below.refl _ _).alloc (Nat.le_refl _) _).alloc (by simp) _
  have hst : Calls Try.prog 74 #[.agg #[.slice As p.steps.length cs, .int .i64 p.hold, .int .i64 p.calm, .int .i64 p.notice, .int .i64 p.grace], .slice A days.length c]
      ((w.alloc (.cells #[.slice As p.steps.length cs, .int .i64 p.hold, .int .i64 p.calm, .int .i64 p.notice, .int .i64 p.grace] 25)).alloc (.cells #[.int .i64 lo, .int .i64 hi] 42))
      fun e w1 => ∃ pp, e = .returned (.tuple #[.agg #[.pointer pp], .int .i64 er]) ∧ (Below w.heap.size w w1 ∧ w.heap.size + 2 ≤ w1.heap.size) ∧ (er = 0 → ∃ pb, pp = some ⟨pb, 0, none⟩ ∧ PolAt w1 pb p) ∧
        (w1.cell? ⟨w.heap.size, 0, none⟩ = some (.slice As p.steps.length cs) ∧ w1.cell? ⟨w.heap.size + 1, 0, none⟩ = some (.int .i64 lo) ∧ w1.cell? ⟨w.heap.size + 1, 1, none⟩ = some (.int .i64 hi)) := by
    refine (start_any As cs p A c days _ ⟨hp.1, hp.2.1, hp.2.2.below (b0 _ _)⟩ (hr.below (b0 _ _)) hm).mono ?_
    rintro e w1 ⟨pp, rfl, hB, h0, _⟩
    have fv : ∀ j, w1.cell? ⟨w.heap.size + 1, j, none⟩ = (#[Value.int .i64 lo, .int .i64 hi] : Array Value)[j]? := by
      intro j
      rw [hB.cell (p := ⟨w.heap.size + 1, j, none⟩) (by simp)]
      have := World.cell?_alloc_new (w.alloc (.cells #[.slice As p.steps.length cs, .int .i64 p.hold, .int .i64 p.calm, .int .i64 p.notice, .int .i64 p.grace] 25)) #[Value.int .i64 lo, .int .i64 hi] 42 j
      rw [World.size_alloc] at this
      exact this
    have fp : w1.cell? ⟨w.heap.size, 0, none⟩ = some (.slice As p.steps.length cs) := by
      rw [hB.cell (p := ⟨w.heap.size, 0, none⟩) (by simp; omega), World.cell?_alloc_lt _ _ _ (by simp), World.cell?_alloc_new]; rfl
    exact ⟨pp, by rw [her], ⟨(b0 _ _).trans (hB.mono (by simp; omega)), by have := hB.size; simp at this; omega⟩, fun h => h0 (her.symm.trans h), fp, (fv 0).trans rfl, (fv 1).trans rfl⟩
  have HP := Lib.hid (And.intro her (And.intro hr hst))
  have hpl := hp.1
  have hpm := hp.2.1
  unfold maxLen at hpm
  clear her hst b0 hr hp
  by_cases h0 : er = 0
  · subst h0
    have hs0 : startS p days = 0 := HP.out.1.symm
    obtain ⟨hck, hl4, _⟩ := start_ok hs0
    have HC := Lib.hid (check_ok hck)
    have hne : ((0 : Int) != 0) = false := rfl
    have HK := Lib.hid hs0
    clear hs0 hck
    obtain ⟨dr, hdr⟩ : ∃ dr, dr = within day 0 ((days.length : Int) - 1) := ⟨_, rfl⟩
    obtain ⟨sr, hsr⟩ : ∃ sr, sr = within step 0 ((p.steps.length : Int) - 1) := ⟨_, rfl⟩
    have hin : ∀ wx, Calls Try.prog 76 #[.int .i64 day, .int .i64 0, .int .i64 ((days.length : Int) - 1)] wx fun e w' => e = .returned (.bool dr) ∧ wx = w' := fun wx => by rw [hdr]; exact within_any day 0 _ wx
    have hin2 : ∀ wx, Calls Try.prog 76 #[.int .i64 step, .int .i64 0, .int .i64 ((p.steps.length : Int) - 1)] wx fun e w' => e = .returned (.bool sr) ∧ wx = w' := fun wx => by rw [hsr]; exact within_any step 0 _ wx
    have HD := Lib.hid (And.intro hdr (And.intro hsr (And.intro hin hin2)))
    clear hdr hin hsr hin2
    cases dr
    · go_enter Try.func20, Try.ntmps20
      go_wp2_with fail
      refine HP.out.2.2.mono ?_
      rintro e w1 ⟨pp, rfl, hB, _, f0, f1, f2⟩
      have HB := Lib.hid hB
      clear hB
      go_wp2_with fail
      refine (HD.out.2.2.1 _).mono ?_
      rintro e w2 ⟨rfl, rfl⟩
      go_wp2_with fail
      go_ret2
      have he : shE p days day step = 6 := sh_day HK.out HD.out.1.symm
      refine ⟨by rw [shB, he]; rfl, HB.out.1.alloc (by have := HB.out.2; omega) _⟩
    · cases sr
      · go_enter Try.func20, Try.ntmps20
        go_wp2_with fail
        refine HP.out.2.2.mono ?_
        rintro e w1 ⟨pp, rfl, hB, _, f0, f1, f2⟩
        have HB := Lib.hid hB
        have zz : w.heap.size < w1.heap.size := by have := hB.2; omega
        clear hB
        go_wp2_with fail
        refine (HD.out.2.2.1 _).mono ?_
        rintro e w2 ⟨rfl, rfl⟩
        go_wp2_with fail
        refine (HD.out.2.2.2 _).mono ?_
        rintro e w2 ⟨rfl, rfl⟩
        go_wp2_with fail
        go_ret2
        have he : shE p days day step = 1 := sh_step HK.out HD.out.1.symm HD.out.2.1.symm
        refine ⟨by rw [shB, he]; rfl, HB.out.1.alloc (by have := HB.out.2; omega) _⟩
      · have hlt : 0 ≤ day ∧ day < days.length := by have := HD.out.1; simp [within] at this; omega
        have hlt2 : 0 ≤ step ∧ step < p.steps.length := by have := HD.out.2.1; simp [within] at this; omega
        obtain ⟨d, rfl⟩ : ∃ k : Nat, day = k := ⟨day.toNat, by omega⟩
        obtain ⟨j, rfl⟩ : ∃ k : Nat, step = k := ⟨step.toNat, by omega⟩
        have hdl : d < days.length := by omega
        have hjl : j < p.steps.length := by omega
        clear hlt hlt2
        go_enter Try.func20, Try.ntmps20
        go_wp2_with fail
        refine HP.out.2.2.mono ?_
        rintro e w1 ⟨pp, rfl, hB, h0, f0, f1, f2⟩
        obtain ⟨pb, rfl, hpol⟩ := h0 trivial
        have HB := Lib.hid (And.intro hB hpol)
        have zz : w.heap.size + 1 < w1.heap.size := by have := hB.2; omega
        have zz0 : w.heap.size < w1.heap.size := by omega
        clear hB hpol h0
        go_wp2_with fail
        refine (HD.out.2.2.1 _).mono ?_
        rintro e w2 ⟨rfl, rfl⟩
        go_wp2_with fail
        refine (HD.out.2.2.2 _).mono ?_
        rintro e w2 ⟨rfl, rfl⟩
        go_wp2_with fail
        obtain ⟨W, hW⟩ : ∃ W, W = w1.alloc (.cells #[.pointer (some ⟨pb, 0, none⟩)] 143) := ⟨_, rfl⟩
        have e8 : W.cell? ⟨w1.heap.size, 0, none⟩ = some (.pointer (some ⟨pb, 0, none⟩)) := by rw [hW]; exact cell_new_one _ _ _
        have b1W : Below w1.heap.size w1 W := by rw [hW]; exact (Below.refl _ _).alloc (Nat.le_refl _) _
        have bW : Below w.heap.size w W := HB.out.1.1.trans (b1W.mono HB.out.1.1.size)
        have pW : PolAt W pb p := HB.out.2.below b1W
        have zW : w1.heap.size < W.heap.size := by rw [hW]; simp
        have g1 := (b1W.cell (p := ⟨w.heap.size + 1, 0, none⟩) zz).trans f1
        have g2 := (b1W.cell (p := ⟨w.heap.size + 1, 1, none⟩) zz).trans f2
        rw [← hW]
        generalize hs1 : w1.heap.size = s1 at e8 zW zz zz0 ⊢
        generalize hs2 : w.heap.size + 1 = s2 at g1 g2 zz ⊢
        have z2 : s2 < W.heap.size := by omega
        have HW := Lib.hid (And.intro bW (And.intro pW (HP.out.2.1.below bW)))
        clear hW b1W bW pW HB f0 f1 f2 zz zz0 hs1 hs2
        go_region_held3 (fun w' => w'.cell? ⟨s1, 0, none⟩ = some (.pointer (some ⟨pb, 0, none⟩)) ∧ w'.cell? ⟨s2, 0, none⟩ = some (.int .i64 lo) ∧ w'.cell? ⟨s2, 1, none⟩ = some (.int .i64 hi)) (first | exact ⟨e8, g1, g2⟩ | exact ⟨e82, g12, g22⟩ | exact ⟨e83, g13, g23⟩)
          (first
            | (go_at_call 84
               refine (kept_any pb p A c days W.drew (HW.out.2.1.below (Below.refl _ _).drew) ⟨HC.out.2.2.2.2.1, by have := HC.out.2.2.2.2.2.1; omega⟩ (HW.out.2.2.below (Below.refl _ _).drew) (by omega)).mono ?_
               rintro e w2 ⟨A2, c2, q2, rfl, o2, n2, b2⟩
               have e82 := (b2.cell (p := ⟨s1, 0, none⟩) zW).trans e8
               have g12 := (b2.cell (p := ⟨s2, 0, none⟩) z2).trans g1
               have g22 := (b2.cell (p := ⟨s2, 1, none⟩) z2).trans g2
               have z22 : s2 < w2.heap.size := Nat.lt_of_lt_of_le z2 b2.size
               have z12 : s1 < w2.heap.size := Nat.lt_of_lt_of_le zW b2.size
               have B2 := Lib.hid (And.intro o2 b2)
               clear o2 n2 b2)
            | (go_at_call 85
               refine (shows_all pb p A c days A2 c2 (keptS p days) d j lo hi w2 (HW.out.2.1.below ((Below.refl _ _).drew.trans B2.out.2)) ⟨HC.out.2.2.1, by have := HC.out.2.2.2.1; omega⟩ (HW.out.2.2.below ((Below.refl _ _).drew.trans B2.out.2)) hcc B2.out.1.rd ⟨B2.out.1.ge, B2.out.1.cap⟩ (by omega) hdl hjl hhi).mono ?_
               rintro e w3 ⟨rfl, b3⟩
               have e83 := (b3.cell (p := ⟨s1, 0, none⟩) z12).trans e82
               have g13 := (b3.cell (p := ⟨s2, 0, none⟩) z22).trans g12
               have g23 := (b3.cell (p := ⟨s2, 1, none⟩) z22).trans g22
               have B3 := Lib.hid b3
               clear b3))
        go_wp2_with fail
        go_ret2
        have he : shE p days d j = 0 := sh_ok HK.out HD.out.1.symm HD.out.2.1.symm
        refine ⟨by rw [shB, he]; rfl, ?_⟩
        have b4 : Below W.heap.size W w3 := (Below.refl _ _).drew.trans (B2.out.2.trans (B3.out.mono B2.out.2.size))
        exact HW.out.1.trans (b4.mono HW.out.1.size)
  · have hne : (er != 0) = true := by simp [h0]
    have hs0 : startS p days ≠ 0 := fun h => h0 (HP.out.1.trans h)
    have HK := Lib.hid (And.intro hs0 h0)
    clear hs0 h0
    go_enter Try.func20, Try.ntmps20
    go_wp2_with fail
    refine HP.out.2.2.mono ?_
    rintro e w1 ⟨pp, rfl, hB, _⟩
    have HB := Lib.hid hB
    clear hB
    go_wp2_with fail
    go_ret2
    have he : shE p days day step = er := (sh_start HK.out.1).trans HP.out.1.symm
    refine ⟨by rw [shB, he, if_neg HK.out.2]; rfl, HB.out.1.alloc (by have := HB.out.2; omega) _⟩
theorem Shows_any (As : Option Addr) (cs : Nat) (p : Pol) (A : Option Addr) (c : Nat) (days : List Int) (day step lo hi : Int) (w : World) (hp : PolV w As cs p) (hr : Rd w 1 A days.length (ints days)) (hcc : days.length ≤ c ∧ c ≤ 9223372036854775807) (hhi : -4000000000000000000 ≤ hi) :
    Calls Try.prog 20 #[.agg #[.slice As p.steps.length cs, .int .i64 p.hold, .int .i64 p.calm, .int .i64 p.notice, .int .i64 p.grace], .slice A days.length c, .int .i64 day, .int .i64 step, .agg #[.int .i64 lo, .int .i64 hi]] w (ShowsPost w p days day step lo hi) :=
  Shows_all As cs p A c days day step lo hi w hp hr hcc (by omega)
end Go.Proofs.Ytfmhlnfcbbpfeaa
/- What the walks of layer 8's laws share: the policy and the history that were made, at each world behind them; what the functions answer where nothing is wrong. -/
namespace Go.Proofs.Ytfmhlnfcbbpfeaa
open Go Go.RowKit Sp
set_option linter.unusedVariables false

/-- the policy p lies in block pb and in steps at As, the history at Ad; w: the first world -/
structure PD (w W : World) (pb : Nat) (As : Option Addr) (cs : Nat) (p : Pol) (Ad : Option Addr) (days : List Int) : Prop where
  blk : W.heap[pb]? = some (.cells #[.slice As p.steps.length cs, .int .i64 p.hold, .int .i64 p.calm, .int .i64 p.notice, .int .i64 p.grace] 25 (0, 0))
  pol : PolV W As cs p
  dys : Rd W 1 Ad days.length (ints days)
  bel : Below w.heap.size w W
section
variable {w W X : World} {pb : Nat} {As : Option Addr} {cs : Nat} {p : Pol} {Ad : Option Addr} {days : List Int}
theorem PD.below (h : PD w W pb As cs p Ad days) (hb : Below W.heap.size W X) : PD w X pb As cs p Ad days :=
  ⟨(hb.block _ (heap_lt h.blk)).trans h.blk, h.pol.below hb, h.dys.below hb, h.bel.trans (hb.mono h.bel.size)⟩
theorem PD.cells (h : PD w W pb As cs p Ad days) : W.cell? ⟨pb, 0, none⟩ = some (.slice As p.steps.length cs) ∧ W.cell? ⟨pb, 1, none⟩ = some (.int .i64 p.hold) ∧ W.cell? ⟨pb, 2, none⟩ = some (.int .i64 p.calm) ∧ W.cell? ⟨pb, 3, none⟩ = some (.int .i64 p.notice) ∧ W.cell? ⟨pb, 4, none⟩ = some (.int .i64 p.grace) ∧ pb < W.heap.size :=
  ⟨(cell_of_heap h.blk 0).trans rfl, (cell_of_heap h.blk 1).trans rfl, (cell_of_heap h.blk 2).trans rfl, (cell_of_heap h.blk 3).trans rfl, (cell_of_heap h.blk 4).trans rfl, heap_lt h.blk⟩
theorem PD.new {w2 : World} (hp : PolV w2 As cs p) (hd : Rd w2 1 Ad days.length (ints days)) (hb : Below w.heap.size w w2) :
    PD w (w2.alloc (.cells #[.slice As p.steps.length cs, .int .i64 p.hold, .int .i64 p.calm, .int .i64 p.notice, .int .i64 p.grace] 25)) w2.heap.size As cs p Ad days := by
  have b : ∀ o, Below w2.heap.size w2 (w2.alloc o) := fun o => (Below.refl _ _).alloc (Nat.le_refl _) _
  exact ⟨heap_alloc_new _ _, hp.below (b _), hd.below (b _), hb.alloc hb.size _⟩

variable (c : Nat) (hst : startS p days = 0)
include hst
theorem dec_ok (h : PD w X pb As cs p Ad days) (hm : days.length ≤ 9223372036854775807) : Calls Try.prog 19 #[.agg #[.slice As p.steps.length cs, .int .i64 p.hold, .int .i64 p.calm, .int .i64 p.notice, .int .i64 p.grace], .slice Ad days.length c] X
    fun e w' => ∃ A1 c1, e = .returned (.tuple #[.slice A1 days.length c1, .int .i64 0]) ∧ Rd w' 1 A1 days.length (ints (decidedS p days)) ∧ Below X.heap.size X w' := by
  refine (Decided_any As cs p Ad c days X h.pol h.dys hm).mono ?_
  rintro e w' ⟨A, c, rfl, h1, h2⟩
  rw [if_pos hst] at *
  rw [hst, decidedS_length]
  exact ⟨A, c, rfl, by have := h1.1; rwa [decidedS_length] at this, h2⟩
theorem for_ok (h : PD w X pb As cs p Ad days) (hm : days.length ≤ 9223372036854775807) : Calls Try.prog 21 #[.agg #[.slice As p.steps.length cs, .int .i64 p.hold, .int .i64 p.calm, .int .i64 p.notice, .int .i64 p.grace], .slice Ad days.length c] X
    fun e w' => ∃ A1 c1, e = .returned (.tuple #[.slice A1 days.length c1, .int .i64 0]) ∧ Rd w' 1 A1 days.length (ints (forceS p days)) ∧ Below X.heap.size X w' := by
  refine (Force_any As cs p Ad c days X h.pol h.dys hm).mono ?_
  rintro e w' ⟨A, c, rfl, h1, h2⟩
  rw [if_pos hst] at *
  rw [hst, forceS_length]
  exact ⟨A, c, rfl, by have := h1.1; rwa [forceS_length] at this, h2⟩
theorem shows_ok (h : PD w X pb As cs p Ad days) (hcc : days.length ≤ c ∧ c ≤ 9223372036854775807) {d k : Nat} (hd : d < days.length) (hk : k < p.steps.length) (lo hi : Int) (hhi : -4000000000000000000 ≤ hi) : Calls Try.prog 20 #[.agg #[.slice As p.steps.length cs, .int .i64 p.hold, .int .i64 p.calm, .int .i64 p.notice, .int .i64 p.grace], .slice Ad days.length c, .int .i64 d, .int .i64 k, .agg #[.int .i64 lo, .int .i64 hi]] X
    fun e w' => e = .returned (.tuple #[.bool (showsS p days (keptS p days) d k lo hi), .int .i64 0]) ∧ Below X.heap.size X w' := by
  refine (Shows_any As cs p Ad c days d k lo hi X h.pol h.dys hcc hhi).mono ?_
  rintro e w' ⟨rfl, h2⟩
  have he : shE p days d k = 0 := sh_ok hst (by simp [within]; omega) (by simp [within]; omega)
  refine ⟨?_, h2⟩
  rw [shB, he, if_pos rfl]
theorem may_call (h : PD w X pb As cs p Ad days) (hm : days.length ≤ 9223372036854775807) {v : Ves} (hv : vright v = true) {k : Nat} (hk : k < days.length) : Calls Try.prog 17 #[.agg #[.slice As p.steps.length cs, .int .i64 p.hold, .int .i64 p.calm, .int .i64 p.notice, .int .i64 p.grace], .slice Ad days.length c, .agg #[.int .i64 v.cls, .int .i64 v.ton, .bool v.esc], .int .i64 k] X
    fun e w' => e = .returned (.tuple #[.bool ((passesS p days v).getD k false), .int .i64 0]) ∧ Below X.heap.size X w' := by
  refine (May_any As cs p Ad c days v k X h.pol h.dys hm).mono ?_
  rintro e w' ⟨rfl, h2⟩
  have e0 : askS p days v = 0 := by rw [ask_right hst, hv]; rfl
  have e1 : mayE p days v k = 0 := by rw [may_day e0, if_pos (by simp [within]; omega)]
  refine ⟨?_, h2⟩
  rw [mayB, e1, if_pos rfl, Int.toNat_natCast]
end
theorem drewB {w W : World} (h : Below w.heap.size w W) (n : Nat) : Below w.heap.size w (W.drewN n) := below_drewN h n
end Go.Proofs.Ytfmhlnfcbbpfeaa
