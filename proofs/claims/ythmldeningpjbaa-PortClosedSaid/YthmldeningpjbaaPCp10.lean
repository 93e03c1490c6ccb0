/- What Made makes is a right policy. -/
import Derived.Test.YthmldeningpjbaaPCp3
import Derived.Test.YthmldeningpjbaaPCp9
import Derived.Test.YthmldeningpjbaaPCp8
import Derived.Test.YthmldeningpjbaaPCp5
import Derived.Test.YthmldeningpjbaaPCp4
set_option linter.unusedVariables false
set_option linter.unusedSimpArgs false
namespace Go.Proofs.Ythmldeningpjbaa
open Sp

def DaysOk (l : List Int) : Prop := ∀ x ∈ l, 0 ≤ x ∧ x ≤ 2000
theorem made_get {l : List Int} {n k : Nat} (h : k < n) : (madeSteps l n).getD k default = madeStp l k := by simp [madeSteps, h]
theorem made_check (l : List Int) {g : Int} (hg : 0 ≤ g ∧ g ≤ 60) : checkS { madeP l with grace := g } = 0 := by
  have d0 := draw_range (l := l) 0 (n := 5) (by decide)
  have d1 := draw_range (l := l) 1 (n := 6) (by decide)
  have d2 := draw_range (l := l) 2 (n := 5) (by decide)
  have d4 := draw_range (l := l) 4 (n := 6) (by decide)
  obtain ⟨n, hn⟩ : ∃ n, n = 1 + (draw l 4 6).toNat := ⟨_, rfl⟩
  have hs : (madeP l).steps = madeSteps l n := by rw [hn]; rfl
  have hn6 : 1 ≤ n ∧ n ≤ 6 := by omega
  refine check_yes (p := { madeP l with grace := g }) ?_ ?_ ?_
  · show within ((madeP l).steps.length : Int) 1 8 = true
    rw [hs, madeSteps_length]; simp [within]; omega
  · simp only [badGlob]
    rw [hs]
    have h0 : (madeSteps l n).headD default = ⟨0, 0, 0, 0⟩ := by
      have := made_get (l := l) (n := n) (k := 0) (by omega)
      cases h : madeSteps l n with
      | nil => have := madeSteps_length l n; rw [h] at this; simp at this; omega
      | cons a t => rw [h] at this; simpa [madeStp] using this
    have w1 : within (1 + draw l 0 5) 1 30 = true := by simp [within]; omega
    have w2 : within (1 + draw l 1 6) 1 30 = true := by simp [within]; omega
    have w3 : within (draw l 2 5) 0 30 = true := by simp [within]; omega
    have w4 : within g 0 60 = true := by simp [within]; omega
    rw [h0]
    simp only [madeP, w1, w2, w3, w4]
    rfl
  · show stepsOkN (madeP l).steps (madeP l).steps.length = true
    rw [hs, madeSteps_length]
    have all : ∀ k, k ≤ n → stepsOkN (madeSteps l n) k = true := by
      intro k
      induction k with
      | zero => intro _; rfl
      | succ k ih =>
        intro hk
        refine stepsOkN_succ (ih (by omega)) ?_
        have bd := madeStp_bd l k
        have e1 := made_get (l := l) (n := n) (k := k) (by omega)
        have gs : goodStep (madeStp l k) = true := by
          refine goodStep_mk ?_ ?_ ?_ ?_ <;> simp [within] <;> omega
        rcases Nat.eq_zero_or_pos k with h0 | h0
        · subst h0
          exact goodAt_zero e1.symm gs
        · obtain ⟨j, rfl⟩ : ∃ j, k = j + 1 := ⟨k - 1, by omega⟩
          have e2 := made_get (l := l) (n := n) (k := j) (by omega)
          have r0 := draw_range (l := l) (5 + 4 * j) (n := 3) (by decide)
          have r1 := draw_range (l := l) (5 + 4 * j + 1) (n := 8) (by decide)
          have r2 := draw_range (l := l) (5 + 4 * j + 2) (n := 120) (by decide)
          have r3 := draw_range (l := l) (5 + 4 * j + 3) (n := 100) (by decide)
          have bd' := madeStp_bd l j
          refine goodAt_succ (b := madeStp l j) e1.symm (by simpa using e2.symm) gs (goodPair_mk ?_ ?_ ?_ ?_) <;> simp only [madeStp, nextStp] <;> omega
    exact all n (Nat.le_refl _)
theorem made_check' (l : List Int) : checkS (madeP l) = 0 := by
  have d3 := draw_range (l := l) 3 (n := 6) (by decide)
  exact made_check l (g := (madeP l).grace) (by simp only [madeP]; omega)
theorem start_zero {p : Pol} {days : List Int} (h : checkS p = 0) (hd : DaysOk days) (hl : days.length ≤ 400) : startS p days = 0 := by
  unfold startS
  rw [if_neg (fun f => f h), if_neg (by omega), if_neg]
  intro ha
  rw [List.any_eq_true] at ha
  obtain ⟨x, hx, h2⟩ := ha
  have := hd x hx
  simp [within] at h2
  omega

end Go.Proofs.Ythmldeningpjbaa
/- restrict.asked, restrict.May, slices.Index of a bool -/
namespace Go.Proofs.Ythmldeningpjbaa
open Go Go.RowKit Sp

/-- the error of asked -/
def askS (p : Pol) (days : List Int) (v : Ves) : Int := if startS p days ≠ 0 then startS p days else if vright v then 0 else 1
theorem ask_start {p : Pol} {days : List Int} {v : Ves} (h : startS p days ≠ 0) : askS p days v = startS p days := by unfold askS; rw [if_pos h]
theorem ask_right {p : Pol} {days : List Int} {v : Ves} (h : startS p days = 0) : askS p days v = if vright v then 0 else 1 := by unfold askS; rw [if_neg (fun f => f h)]
theorem vright_cls {v : Ves} (h : vright v = true) : -1000000000 ≤ v.cls ∧ v.cls ≤ 1000000000 := by simp [vright, within] at h; omega

def BoolsAt (w : World) (A : Option Addr) (c : Nat) (l : List Bool) : Prop := Rd w 1 A l.length (bools l) ∧ l.length ≤ c ∧ c ≤ 9223372036854775807
def askedPost (w : World) (p : Pol) (days : List Int) (v : Ves) (e : Ending) (w' : World) : Prop :=
  ∃ A c, e = .returned (.tuple #[.slice A (if askS p days v = 0 then days.length else 0) c, .int .i64 (askS p days v)]) ∧ (askS p days v = 0 → BoolsAt w' A c (passesS p days v)) ∧ Below w.heap.size w w'

set_option maxRecDepth 100000 in
set_option maxHeartbeats 1000000 in
theorem asked8_any (As : Option Addr) (cs : Nat) (p : Pol) (A : Option Addr) (c : Nat) (days : List Int) (v : Ves) (w : World) (hp : PolV w As cs p) (hr : Rd w 1 A days.length (ints days)) (hm : days.length ≤ 9223372036854775807) :
    Calls Try.prog 116 #[.agg #[.slice As p.steps.length cs, .int .i64 p.hold, .int .i64 p.calm, .int .i64 p.notice, .int .i64 p.grace], .slice A days.length c, .agg #[.int .i64 v.cls, .int .i64 v.ton, .bool v.esc]] w (askedPost w p days v) := by
  obtain ⟨er, her⟩ : ∃ er, er = startS p days := ⟨_, rfl⟩
  have b0 : ∀ o o', Below w.heap.size w ((w.alloc o).alloc o') := fun o o' => ((Below.refl _ _).alloc (Nat.le_refl _) _).alloc (by simp) _
  have hst : Calls Try.prog 134 #[.agg #[.slice As p.steps.length cs, .int .i64 p.hold, .int .i64 p.calm, .int .i64 p.notice, .int .i64 p.grace], .slice A days.length c]
      ((w.alloc (.cells #[.slice As p.steps.length cs, .int .i64 p.hold, .int .i64 p.calm, .int .i64 p.notice, .int .i64 p.grace] 135)).alloc (.cells #[.int .i64 v.cls, .int .i64 v.ton, .bool v.esc] 138))
      fun e w1 => ∃ pp, e = .returned (.tuple #[.agg #[.pointer pp], .int .i64 er]) ∧ (Below w.heap.size w w1 ∧ w.heap.size + 2 ≤ w1.heap.size) ∧ (er = 0 → ∃ pb, pp = some ⟨pb, 0, none⟩ ∧ PolAt w1 pb p) ∧
        w1.cell? ⟨w.heap.size + 1, 0, none⟩ = some (.int .i64 v.cls) ∧ w1.cell? ⟨w.heap.size + 1, 1, none⟩ = some (.int .i64 v.ton) ∧ w1.cell? ⟨w.heap.size + 1, 2, none⟩ = some (.bool v.esc) := by
    refine (start8_any As cs p A c days _ ⟨hp.1, hp.2.1, hp.2.2.below (b0 _ _)⟩ (hr.below (b0 _ _)) hm).mono ?_
    rintro e w1 ⟨pp, rfl, hB, h0, _⟩
    have fv : ∀ j u, (#[Value.int .i64 v.cls, .int .i64 v.ton, .bool v.esc] : Array Value)[j]? = some u → w1.cell? ⟨w.heap.size + 1, j, none⟩ = some u := by
      intro j u hu
      rw [hB.cell (p := ⟨w.heap.size + 1, j, none⟩) (by simp)]
      rw [← hu]
      have := World.cell?_alloc_new (w.alloc (.cells #[.slice As p.steps.length cs, .int .i64 p.hold, .int .i64 p.calm, .int .i64 p.notice, .int .i64 p.grace] 135)) #[Value.int .i64 v.cls, .int .i64 v.ton, .bool v.esc] 138 j
      rw [World.size_alloc] at this
      exact this
    exact ⟨pp, by rw [her], ⟨(b0 _ _).trans (hB.mono (by simp; omega)), by have := hB.size; simp at this; omega⟩, fun h => h0 (her.symm.trans h), fv 0 _ rfl, fv 1 _ rfl, fv 2 _ rfl⟩
  have HP := Lib.hid (And.intro her (And.intro hr hst))
  clear her hst b0
  by_cases h0 : er = 0
  · subst h0
    have hs0 : startS p days = 0 := HP.out.1.symm
    obtain ⟨hck, hl4, _⟩ := start_ok hs0
    obtain ⟨k1, k2, k3, k4, k5, k6, k7, k8, k9, k10⟩ := check_ok hck
    have hne : ((0 : Int) != 0) = false := rfl
    have HK := Lib.hid (And.intro hs0 (And.intro k1 (And.intro k3 (And.intro k4 (And.intro k5 (And.intro k6 (And.intro k7 k8)))))))
    clear hs0 hck k1 k2 k3 k4 k5 k6 k7 k8 k9 k10 hr
    obtain ⟨vr, hvr⟩ : ∃ vr, vr = vright v := ⟨_, rfl⟩
    have hrt : ∀ wx, Calls Try.prog 135 #[.agg #[.int .i64 v.cls, .int .i64 v.ton, .bool v.esc]] wx fun e w' => e = .returned (.bool vr) ∧ Below wx.heap.size wx w' := fun wx => by rw [hvr]; exact right_any v wx
    have HV := Lib.hid (And.intro hvr hrt)
    clear hvr hrt
    cases vr
    · go_enter Try.func116, Try.ntmps116
      go_wp2_with fail
      refine HP.out.2.2.mono ?_
      rintro e w1 ⟨pp, rfl, hB, h0, f0, f1, f2⟩
      obtain ⟨pb, rfl, hpol⟩ := h0 trivial
      have HB := Lib.hid (And.intro hB hpol)
      have hsz : w.heap.size + 1 < w1.heap.size := hB.2
      clear hB hpol h0
      go_wp2_with (go_at_call 135; refine (HV.out.2 _).mono ?_; rintro e w2 ⟨rfl, b2⟩)
      go_ret2
      refine ⟨none, 0, ?_, ?_, ?_⟩
      · rw [ask_right HK.out.1, ← HV.out.1]; rfl
      · rw [ask_right HK.out.1, ← HV.out.1]; intro h; cases h
      · have := HB.out.1.2
        exact (HB.out.1.1.alloc (by omega) _).trans (b2.mono (by simp; omega))
    · go_enter Try.func116, Try.ntmps116
      go_wp2_with fail
      refine HP.out.2.2.mono ?_
      rintro e w1 ⟨pp, rfl, hB, h0, f0, f1, f2⟩
      obtain ⟨pb, rfl, hpol⟩ := h0 trivial
      have HB := Lib.hid (And.intro hB hpol)
      have hsz : w.heap.size + 1 < w1.heap.size := hB.2
      clear hB hpol h0
      have hB2 : Below w.heap.size w w1 ∧ w.heap.size ≤ w1.heap.size := ⟨HB.out.1.1, by omega⟩
      go_wp2_with (go_at_call 135; refine (HV.out.2 _).mono ?_; rintro e w2 ⟨rfl, b2⟩
                   have bb : Below w1.heap.size w1 w2 := ((Below.refl _ _).alloc (Nat.le_refl _) _).trans (b2.mono (by simp))
                   have f0' := (bb.cell (p := ⟨w.heap.size + 1, 0, none⟩) hsz).trans f0
                   have f1' := (bb.cell (p := ⟨w.heap.size + 1, 1, none⟩) hsz).trans f1
                   have f2' := (bb.cell (p := ⟨w.heap.size + 1, 2, none⟩) hsz).trans f2
                   have f3' : w2.cell? ⟨w1.heap.size, 0, none⟩ = some (.pointer (some ⟨pb, 0, none⟩)) := by
                     rw [b2.cell (p := ⟨w1.heap.size, 0, none⟩) (by simp)]
                     exact cell_new_one _ _ _
                   have BB := Lib.hid bb
                   clear bb b2 f0 f1 f2)
      have bt : Below w.heap.size w w2 := hB2.1.trans (BB.out.mono hB2.2)
      refine (passes_any pb p A c days v w2 (HB.out.2.below BB.out) ⟨HK.out.2.2.1, by have := HK.out.2.2.2.1; omega⟩ ⟨HK.out.2.2.2.2.1, by have := HK.out.2.2.2.2.2.1; omega⟩ ⟨HK.out.2.2.2.2.2.2.1, by have := HK.out.2.2.2.2.2.2.2; omega⟩ HK.out.2.1 (vright_cls HV.out.1.symm) (HP.out.2.1.below bt) (by omega)).mono ?_
      rintro e w3 ⟨A3, c3, q3, rfl, o3, n3, b3⟩
      go_wp2_with fail
      go_ret2
      refine ⟨A3, c3, ?_, ?_, ?_⟩
      · rw [ask_right HK.out.1, ← HV.out.1]; rfl
      · intro _; exact ⟨by rw [passesS_length]; exact o3.rd, by rw [passesS_length]; exact o3.ge, o3.cap⟩
      · exact bt.trans (b3.mono bt.size)
  · have hne : (er != 0) = true := by simp [h0]
    have hs0 : startS p days ≠ 0 := fun h => h0 (HP.out.1.trans h)
    have HK := Lib.hid (And.intro hs0 h0)
    clear hs0 h0 hr
    go_enter Try.func116, Try.ntmps116
    go_wp2_with fail
    refine HP.out.2.2.mono ?_
    rintro e w1 ⟨pp, rfl, hB, _⟩
    have HB := Lib.hid hB
    clear hB
    go_wp2_with fail
    go_ret2
    refine ⟨none, 0, ?_, ?_, HB.out.1.alloc HB.out.1.size _⟩
    · rw [ask_start HK.out.1, if_neg HK.out.1, ← HP.out.1]; rfl
    · rw [ask_start HK.out.1]; intro h; exact absurd h HK.out.1

/-- what May leaves -/
def mayE (p : Pol) (days : List Int) (v : Ves) (day : Int) : Int := if askS p days v ≠ 0 then askS p days v else if within day 0 ((days.length : Int) - 1) then 0 else 6
def mayB (p : Pol) (days : List Int) (v : Ves) (day : Int) : Bool := if mayE p days v day = 0 then (passesS p days v).getD day.toNat false else false
theorem may_ask {p : Pol} {days : List Int} {v : Ves} {day : Int} (h : askS p days v ≠ 0) : mayE p days v day = askS p days v := by unfold mayE; rw [if_pos h]
theorem may_day {p : Pol} {days : List Int} {v : Ves} {day : Int} (h : askS p days v = 0) : mayE p days v day = if within day 0 ((days.length : Int) - 1) then 0 else 6 := by unfold mayE; rw [if_neg (fun f => f h)]

set_option maxRecDepth 100000 in
set_option maxHeartbeats 1000000 in
theorem May_any (As : Option Addr) (cs : Nat) (p : Pol) (A : Option Addr) (c : Nat) (days : List Int) (v : Ves) (day : Int) (w : World) (hp : PolV w As cs p) (hr : Rd w 1 A days.length (ints days)) (hm : days.length ≤ 9223372036854775807) :
    Calls Try.prog 65 #[.agg #[.slice As p.steps.length cs, .int .i64 p.hold, .int .i64 p.calm, .int .i64 p.notice, .int .i64 p.grace], .slice A days.length c, .agg #[.int .i64 v.cls, .int .i64 v.ton, .bool v.esc], .int .i64 day] w
      fun e w' => e = .returned (.tuple #[.bool (mayB p days v day), .int .i64 (mayE p days v day)]) ∧ Below w.heap.size w w' := by
  obtain ⟨er, her⟩ : ∃ er, er = askS p days v := ⟨_, rfl⟩
  obtain ⟨n, hn⟩ : ∃ n, n = if er = 0 then days.length else 0 := ⟨_, rfl⟩
  have b0 : ∀ o o', Below w.heap.size w ((w.alloc o).alloc o') := fun o o' => ((Below.refl _ _).alloc (Nat.le_refl _) _).alloc (by simp) _
  have hak : ∀ o o', Calls Try.prog 116 #[.agg #[.slice As p.steps.length cs, .int .i64 p.hold, .int .i64 p.calm, .int .i64 p.notice, .int .i64 p.grace], .slice A days.length c, .agg #[.int .i64 v.cls, .int .i64 v.ton, .bool v.esc]]
      ((w.alloc o).alloc o')
      fun e w1 => ∃ A1 c1, e = .returned (.tuple #[.slice A1 n c1, .int .i64 er]) ∧ (er = 0 → BoolsAt w1 A1 c1 (passesS p days v)) ∧ Below w.heap.size w w1 := by
    intro o o'
    refine (asked8_any As cs p A c days v _ ⟨hp.1, hp.2.1, hp.2.2.below (b0 _ _)⟩ (hr.below (b0 _ _)) hm).mono ?_
    rintro e w1 ⟨A1, c1, rfl, h1, h2⟩
    exact ⟨A1, c1, by rw [hn, her], fun h => h1 (her.symm.trans h), (b0 _ _).trans (h2.mono (by simp; omega))⟩
  have HP := Lib.hid (And.intro her (And.intro hn hak))
  clear her hn hak b0 hr
  by_cases h0 : er = 0
  · subst h0
    have hne : ((0 : Int) != 0) = false := rfl
    obtain rfl : n = days.length := HP.out.2.1
    obtain ⟨dr, hdr⟩ : ∃ dr, dr = within day 0 ((days.length : Int) - 1) := ⟨_, rfl⟩
    have hin : ∀ wx, Calls Try.prog 118 #[.int .i64 day, .int .i64 0, .int .i64 ((days.length : Int) - 1)] wx fun e w' => e = .returned (.bool dr) ∧ wx = w' := fun wx => by rw [hdr]; exact within_any day 0 _ wx
    have HD := Lib.hid (And.intro hdr hin)
    clear hdr hin
    cases dr
    · go_enter Try.func65, Try.ntmps65
      go_wp2_with fail
      refine (HP.out.2.2 _ _).mono ?_
      rintro e w1 ⟨A1, c1, rfl, h1, h2⟩
      have HB := Lib.hid (And.intro h1 h2)
      clear h1 h2
      go_wp2_with (go_at_call 118; refine (HD.out.2 _).mono ?_; rintro e w2 ⟨rfl, rfl⟩)
      go_ret2
      have he : mayE p days v day = 6 := by rw [may_day HP.out.1.symm, ← HD.out.1]; rfl
      refine ⟨?_, HB.out.2⟩
      rw [mayB, he]; rfl
    · have hlt : 0 ≤ day ∧ day < days.length := by have := HD.out.1; simp [within] at this; omega
      obtain ⟨k, rfl⟩ : ∃ k : Nat, day = k := ⟨day.toNat, by omega⟩
      have hlt' : k < days.length := by omega
      clear hlt
      go_enter Try.func65, Try.ntmps65
      go_wp2_with fail
      refine (HP.out.2.2 _ _).mono ?_
      rintro e w1 ⟨A1, c1, rfl, h1, h2⟩
      obtain ⟨hr1, hc1, hc2⟩ := h1 trivial
      rw [passesS_length] at hr1 hc1
      obtain ⟨b, off, rfl, hb, hc⟩ := hr1.2 (by omega)
      have c0 := hc k _ (bools_get (by rw [passesS_length]; exact hlt'))
      have HB := Lib.hid h2
      clear h1 h2 hc hr1
      go_wp2_with (go_at_call 118; refine (HD.out.2 _).mono ?_; rintro e w2 ⟨rfl, rfl⟩)
      go_ret2
      have he : mayE p days v (k : Int) = 0 := by rw [may_day HP.out.1.symm, ← HD.out.1]; rfl
      refine ⟨?_, HB.out⟩
      rw [mayB, he]; rfl
  · have hne : (er != 0) = true := by simp [h0]
    have HK := Lib.hid h0
    clear h0
    go_enter Try.func65, Try.ntmps65
    go_wp2_with fail
    refine (HP.out.2.2 _ _).mono ?_
    rintro e w1 ⟨A1, c1, rfl, h1, h2⟩
    have HB := Lib.hid h2
    clear h1 h2
    go_wp2_with fail
    go_ret2
    have he : mayE p days v day = er := by rw [may_ask (by rw [← HP.out.1]; exact HK.out), HP.out.1]
    refine ⟨?_, HB.out⟩
    rw [mayB, he, if_neg HK.out]; rfl

/-- where a Bool comes first -/
def idxL (t : Bool) : List Bool → Int
  | [] => -1
  | x :: l => if t = x then 0 else if idxL t l = -1 then -1 else idxL t l + 1
theorem idxL_append {t : Bool} {l m : List Bool} (h : ∀ x ∈ l, t ≠ x) : idxL t (l ++ t :: m) = l.length := by
  induction l with
  | nil => simp [idxL]
  | cons x l ih =>
    rw [List.cons_append, idxL, if_neg (h x (by simp)), ih (fun y hy => h y (by simp [hy]))]
    rw [if_neg (by omega)]; simp
theorem idxL_none {t : Bool} {l : List Bool} (h : ∀ x ∈ l, t ≠ x) : idxL t l = -1 := by
  induction l with
  | nil => rfl
  | cons x l ih => rw [idxL, if_neg (h x (by simp)), ih (fun y hy => h y (by simp [hy])), if_pos rfl]

set_option maxHeartbeats 1000000 in
theorem indexB_any (A : Option Addr) (c : Nat) (l : List Bool) (t : Bool) (w : World) (hr : Rd w 1 A l.length (bools l)) (hm : l.length ≤ 9223372036854775807) :
    Calls Try.prog 119 #[.slice A l.length c, .bool t] w fun e w' => e = .returned (.int .i64 (idxL t l)) ∧ w = w' := by
  go_enter Try.func119, Try.ntmps119
  go_wp2_with fail
  go_loopg [8] (l.length) (fun g i wr => ∃ k : Nat, g + k = l.length ∧ i = .int .i64 k ∧ (∀ x ∈ l.take k, t ≠ x) ∧ w = wr)
  case atStart => exact ⟨0, rfl, rfl, by simp, rfl⟩
  case round =>
    obtain ⟨k, hk, rfl, hb, rfl⟩ := hrel
    have HB := Lib.hid hb
    clear hb
    by_cases hlt : k < l.length
    · obtain ⟨b, off, rfl, hbb, hc⟩ := hr.2 (by omega)
      have c0 := hc k _ (bools_get hlt)
      have hx : l.getD k false = l[k] := by simp [hlt]
      rw [hx] at c0
      have HX := Lib.hid hx
      clear hx hc hr
      cases hz : (t == l[k])
      · go_wp2_with fail
        go_roundg (gk - 1)
        case measure => omega
        case rel =>
          refine ⟨k + 1, by omega, by go_num, ?_, rfl⟩
          rw [List.take_succ_eq_append_getElem hlt]
          intro x hx
          rcases List.mem_append.1 hx with h1 | h1
          · exact HB.out x h1
          · rw [List.mem_singleton.1 h1]; simpa using hz
      · go_wp2_with fail
        go_ret
        refine ⟨?_, rfl⟩
        have e1 : l = l.take k ++ t :: l.drop (k + 1) := by
          have e2 : t = l[k] := by simpa using hz
          conv => lhs; rw [← List.take_append_drop k l, List.drop_eq_getElem_cons hlt]
          rw [e2]
        have e3 : idxL t l = k := by rw [e1, idxL_append HB.out, List.length_take, Nat.min_eq_left (by omega)]
        rw [e3]; rfl
    · obtain rfl : k = l.length := by omega
      go_wp2_with fail
      go_ret
      exact ⟨by rw [idxL_none (by have := HB.out; rwa [List.take_length] at this)]; rfl, rfl⟩
end Go.Proofs.Ythmldeningpjbaa
/- words on memory and on the first index of a Bool -/
namespace Go.Proofs.Ythmldeningpjbaa
open Go Go.RowKit Sp

theorem below_drewN {B : Nat} {w w' : World} (h : Below B w w') (n : Nat) : Below B w (w'.drewN n) := ⟨h.os, h.tape, h.output, h.size, h.block⟩
theorem idxL_range (t : Bool) (l : List Bool) : -1 ≤ idxL t l ∧ idxL t l ≤ l.length := by
  induction l with
  | nil => exact ⟨Int.le_refl _, by simp [idxL]⟩
  | cons x l ih =>
    rw [idxL]
    simp only [List.length_cons]
    split
    · omega
    · split <;> omega
theorem rd_sub {w : World} {b off n a m : Nat} {xs : List Value} (h : Rd w 1 (some ⟨b, off, none⟩) n xs) (hm : a + m ≤ n) (hb : b < w.heap.size) (hc : ∀ j u, xs[j]? = some u → w.cell? ⟨b, off + j, none⟩ = some u) : Rd w 1 (some ⟨b, off + a, none⟩) m ((xs.drop a).take m) := by
  refine ⟨by rw [List.length_take, List.length_drop, h.1]; omega, fun h0 => ⟨b, off + a, rfl, hb, fun j u hu => ?_⟩⟩
  rw [List.getElem?_take] at hu
  split at hu
  · rw [List.getElem?_drop] at hu
    have := hc _ _ hu
    rwa [show off + (a + j) = off + a + j from by omega] at this
  · cases hu
theorem span_cells {w : World} {b : Nat} {x y : Value} {t : TypeId} (hh : w.heap[b]? = some (.cells #[x, y] t)) (u v : Value) : ((w.setCell ⟨b, 0, none⟩ u).setCell ⟨b, 1, none⟩ v).heap[b]? = some (.cells #[u, v] t) := heap_set (heap_set hh 0 u) 1 v
theorem PolV.below {w w' : World} {A : Option Addr} {c : Nat} {p : Pol} (h : PolV w A c p) (hb : Below w.heap.size w w') : PolV w' A c p := ⟨h.1, h.2.1, h.2.2.below hb⟩

end Go.Proofs.Ythmldeningpjbaa
/- restrict.Windows: its closure -/
namespace Go.Proofs.Ythmldeningpjbaa
open Go Go.RowKit Sp

def spc (s : Int × Int) : List Value := [.int .i64 s.1, .int .i64 s.2]
def spcs (l : List (Int × Int)) : List Value := l.flatMap spc
theorem spcs_length (l : List (Int × Int)) : (spcs l).length = l.length * 2 := by
  induction l with
  | nil => rfl
  | cons s l ih => simp only [spcs, List.flatMap_cons, List.length_append, List.length_cons] at ih ⊢; rw [ih]; simp [spc]; omega
theorem spcs_append (l m : List (Int × Int)) : spcs (l ++ m) = spcs l ++ spcs m := by simp [spcs]
theorem spcs_get {l : List (Int × Int)} {k : Nat} (hk : k < l.length) : (spcs l)[k*2]? = some (.int .i64 l[k].1) ∧ (spcs l)[k*2+1]? = some (.int .i64 l[k].2) := by
  induction l generalizing k with
  | nil => simp at hk
  | cons s l ih =>
    cases k with
    | zero => simp [spcs, spc]
    | succ k =>
      have h4 : ∀ j, (spcs (s :: l))[2 + j]? = (spcs l)[j]? := fun j => by
        simp only [spcs, List.flatMap_cons, spc]
        rw [List.getElem?_append_right (by simp)]
        simp
      have e : ∀ j, (k+1)*2 + j = 2 + (k*2 + j) := fun j => by omega
      have e0 : (k+1)*2 = 2 + k*2 := by omega
      have hk' : k < l.length := by simpa using hk
      rw [e, e0, h4, h4]
      simpa using ih hk'

/-- a window that begins, or goes on, on the day -/
def joinS (L : List (Int × Int)) (day : Int) : List (Int × Int) :=
  match L.getLast? with
  | some s => if s.2 = day - 1 then L.dropLast ++ [(s.1, day)] else L ++ [(day, day)]
  | none => [(day, day)]

/-- the cell cb holds the windows L -/
def SpansIn (w : World) (cb : Nat) (L : List (Int × Int)) (fp : List Nat) : Prop :=
  ∃ A c, w.heap[cb]? = some (.cells #[.slice A L.length c] 119 (0, 0)) ∧ OwnS w 129 2 A L.length c (spcs L) fp ∧ cb ∉ fp

theorem info_span : (Try.prog.info? 129).map (fun i => (i.zero, i.size, i.bytes)) = some (some (.agg #[.int .i64 0, .int .i64 0]), 2, 16) := by kernel_rfl

def JoinPost (w : World) (cb : Nat) (L : List (Int × Int)) (day : Int) (fp : List Nat) (e : Ending) (w' : World) : Prop :=
  e = .returned (.tuple #[]) ∧ ∃ fp', SpansIn w' cb (joinS L day) fp' ∧ (∀ g ∈ fp', g ∈ fp ∨ w.heap.size ≤ g) ∧ Keep (cb :: fp) w w'

set_option maxRecDepth 100000 in
set_option maxHeartbeats 2000000 in
theorem joinW_any (cb : Nat) (L : List (Int × Int)) (fp : List Nat) (d : Nat) (w : World) (hs : SpansIn w cb L fp) (hl : L.length ≤ 100000) (hd : d ≤ 100000) :
    Calls Try.prog 117 #[.int .i64 d, .pointer (some ⟨cb, 0, none⟩)] w (JoinPost w cb L d fp) := by
  obtain ⟨i0, hi, hz0, hz1, hz2⟩ := info_parts info_span
  obtain ⟨A, c, hh, hown, hnc⟩ := hs
  have c0 : w.cell? ⟨cb, 0, none⟩ = some (.slice A L.length c) := (cell_of_heap hh 0).trans rfl
  have z0 := heap_lt hh
  have fr := frozen_of_heap hh 0
  rcases List.eq_nil_or_concat L with rfl | ⟨L', s, rfl⟩
  · have HS := Lib.hid (And.intro hh (And.intro hown hnc))
    have hgn : ¬ (cb ∈ fp ∨ (w.alloc (.cells #[.int .i64 d, .int .i64 d] 129)).heap.size = cb) := by simp; exact ⟨hnc, by omega⟩
    clear hh hown hnc
    simp only [List.length_nil] at c0
    go_enter Try.func117, Try.ntmps117
    go_wp2_with (at_builtin
                 refine wpList_append_S (size := 2) rfl (.tmp 24) (.tmp 28) 119 rfl i0 _ 16 Try.underlying119 hi hz0 hz1 (by decide) hz2 rfl (A := A) (n := 0) (c := c) (xs := []) (fp := fp) (by simp [Act.eval]) ⟨w.heap.size, 0, none⟩ (by simp [Act.eval]) [.int .i64 d, .int .i64 d] (HS.out.2.1.alloc _) rfl ?_ (by simp [Value.oneCell']) (by omega) (by omega) ?_
                 · intro j v hv
                   rw [show (⟨w.heap.size, 0, none⟩ : Addr).add j = ⟨w.heap.size, j, none⟩ from by simp [Addr.add]; omega, World.cell?_alloc_new]
                   simpa using hv
                 intro g c' w1 h1 h2 h3 h4
                 have hb1 : w1.heap[cb]? = some (.cells #[.slice A 0 c] 119 (0, 0)) := (h4.block cb (by simp; omega) HS.out.2.2).trans (heap_alloc' HS.out.1 _)
                 have d0 : w1.cell? ⟨cb, 0, none⟩ = some (.slice A 0 c) := (cell_of_heap hb1 0).trans rfl
                 have d1 := frozen_of_heap hb1 0
                 have HQ := Lib.hid (And.intro h1 (And.intro h2 (And.intro h4 hb1)))
                 clear h1 h2 h3 h4 hb1)
    go_end0
    refine ⟨rfl, [g], ⟨_, c', heap_set HQ.out.2.2.2 0 _, HQ.out.1.setCell (by simp; rintro rfl; exact hgn HQ.out.2.1) _, by simp; rintro rfl; exact hgn HQ.out.2.1⟩, ?_, ?_⟩
    · intro y hy
      rw [List.mem_singleton.1 hy]
      exact HQ.out.2.1.imp id (fun h => by simp at h; omega)
    · exact (((Keep.refl (cb :: fp) w).alloc _).trans HQ.out.2.2.1 (fun y hy => .inl (by simp [hy]))).setCell (.inl (by simp)) _
  · obtain ⟨n, hn⟩ : ∃ n, n = L'.length := ⟨_, rfl⟩
    have hn1 : (L' ++ [s]).length = n + 1 := by simp [hn]
    rw [List.concat_eq_append] at *
    rw [hn1] at c0 hh hown hl
    obtain ⟨g0, rfl, rfl, zg, hc, hf⟩ := hown.some_ (by omega)
    have hsp : spcs (L' ++ [s]) = spcs L' ++ spc s := by simp [spcs]
    have hlen := spcs_length L'
    rw [← hn] at hlen
    have c1 : w.cell? ⟨g0, n * 2 + 1, none⟩ = some (.int .i64 s.2) := hc _ _ (by rw [hsp, List.getElem?_append_right (by omega), hlen]; simp [spc])
    have f1 := hf (n * 2 + 1)
    have hnI : (0 : Int) ≤ (n : Int) ∧ (n : Int) ≤ 100000 := by omega
    have hgn : g0 ≠ cb := fun e => hnc (by simp [e])
    obtain ⟨x, hx⟩ : ∃ x, x = s.2 := ⟨_, rfl⟩
    rw [← hx] at c1
    have HS := Lib.hid (And.intro hh (And.intro hown (And.intro hnc (And.intro hsp (And.intro hlen (And.intro hn hx))))))
    clear hh hown hnc hsp hlen hn hx hc hf hn1
    by_cases hxd : x = (d : Int) - 1
    · have hxb : (x == (d : Int) - 1) = true := by simp [hxd]
      go_enter Try.func117, Try.ntmps117
      go_wp2_with fail
      go_end0
      have hj : joinS (L' ++ [s]) (d : Int) = L' ++ [(s.1, (d : Int))] := by simp [joinS, ← HS.out.2.2.2.2.2.2, hxd]
      have hl2 : (L' ++ [(s.1, (d : Int))]).length = n + 1 := by simp [HS.out.2.2.2.2.2.1]
      refine ⟨rfl, [g0], ?_, fun y hy => .inl hy, (Keep.refl _ _).setCell (.inl (by simp)) _⟩
      rw [hj]
      refine ⟨some ⟨g0, 0, none⟩, c, ?_, ?_, HS.out.2.2.1⟩
      · rw [hl2]; exact heap_set_ne HS.out.1 (p := ⟨g0, n * 2 + 1, none⟩) (fun e => hgn e.symm) _
      · rw [hl2]
        have h5 := HS.out.2.1.set_ (n * 2 + 1) (.int .i64 d)
        have h6 : (spcs (L' ++ [s])).set (n * 2 + 1) (.int .i64 d) = spcs (L' ++ [(s.1, (d : Int))]) := by
          rw [HS.out.2.2.2.1, spcs_append, List.set_append_right _ _ (by have := HS.out.2.2.2.2.1; omega), HS.out.2.2.2.2.1]
          simp [spc, spcs]
        rwa [h6] at h5
    · have hxb : (x == (d : Int) - 1) = false := by simp [hxd]
      go_enter Try.func117, Try.ntmps117
      go_wp2_with (at_builtin
                   refine wpList_append_S (size := 2) rfl (.tmp 24) (.tmp 28) 119 rfl i0 _ 16 Try.underlying119 hi hz0 hz1 (by decide) hz2 rfl (A := some ⟨g0, 0, none⟩) (n := n + 1) (c := c) (xs := spcs (L' ++ [s])) (fp := [g0]) (by simp [Act.eval]) ⟨w.heap.size, 0, none⟩ (by simp [Act.eval]) [.int .i64 d, .int .i64 d] (HS.out.2.1.alloc _) rfl ?_ (by simp [Value.oneCell']) (by omega) (by omega) ?_
                   · intro j v hv
                     rw [show (⟨w.heap.size, 0, none⟩ : Addr).add j = ⟨w.heap.size, j, none⟩ from by simp [Addr.add]; omega, World.cell?_alloc_new]
                     simpa using hv
                   intro g c' w1 h1 h2 h3 h4
                   have hb1 : w1.heap[cb]? = some (.cells #[.slice (some ⟨g0, 0, none⟩) (n + 1) c] 119 (0, 0)) := (h4.block cb (by simp; omega) HS.out.2.2.1).trans (heap_alloc' HS.out.1 _)
                   have d0 : w1.cell? ⟨cb, 0, none⟩ = some (.slice (some ⟨g0, 0, none⟩) (n + 1) c) := (cell_of_heap hb1 0).trans rfl
                   have d1 := frozen_of_heap hb1 0
                   have HQ := Lib.hid (And.intro h1 (And.intro h2 (And.intro h4 hb1)))
                   clear h1 h2 h3 h4 hb1)
      go_end0
      have hgc : ¬ (cb ∈ [g0] ∨ (w.alloc (.cells #[.int .i64 d, .int .i64 d] 129)).heap.size = cb) := by simp; exact ⟨fun e => hgn e.symm, by omega⟩
      have hj : joinS (L' ++ [s]) (d : Int) = (L' ++ [s]) ++ [((d : Int), (d : Int))] := by
        simp only [joinS, List.getLast?_append, List.getLast?_singleton, Option.some_or]
        rw [if_neg (by rw [← HS.out.2.2.2.2.2.2]; exact hxd)]
      have hl2 : ((L' ++ [s]) ++ [((d : Int), (d : Int))]).length = n + 1 + 1 := by simp [HS.out.2.2.2.2.2.1]
      refine ⟨rfl, [g], ?_, ?_, ?_⟩
      · rw [hj]
        refine ⟨some ⟨g, 0, none⟩, c', ?_, ?_, by simp; rintro rfl; exact hgc HQ.out.2.1⟩
        · rw [hl2]; exact heap_set HQ.out.2.2.2 0 _
        · rw [hl2, spcs_append]; exact HQ.out.1.setCell (by simp; rintro rfl; exact hgc HQ.out.2.1) _
      · intro y hy
        rw [List.mem_singleton.1 hy]
        exact HQ.out.2.1.imp id (fun h => by simp at h; omega)
      · exact (((Keep.refl (cb :: [g0]) w).alloc _).trans HQ.out.2.2.1 (fun y hy => .inl (by simp at hy ⊢; exact .inr hy))).setCell (.inl (by simp)) _
end Go.Proofs.Ythmldeningpjbaa
/- restrict.Windows -/
namespace Go.Proofs.Ythmldeningpjbaa
open Go Go.RowKit Sp

/-- the windows of the first k days -/
def winN (l : List Bool) : Nat → List (Int × Int)
  | 0 => []
  | k + 1 => if l.getD k false then joinS (winN l k) k else winN l k
theorem joinS_length (L : List (Int × Int)) (d : Int) : (joinS L d).length ≤ L.length + 1 := by
  unfold joinS
  split
  · rename_i s hs
    have : L ≠ [] := by rintro rfl; cases hs
    have h1 : 0 < L.length := List.length_pos_iff.2 this
    split <;> simp <;> omega
  · simp
theorem winN_length (l : List Bool) (k : Nat) : (winN l k).length ≤ k := by
  induction k with
  | zero => exact Nat.le_refl _
  | succ k ih =>
    unfold winN
    split
    · exact Nat.le_trans (joinS_length _ _) (by omega)
    · omega
def windowsS (p : Pol) (days : List Int) (v : Ves) : List (Int × Int) := if askS p days v = 0 then winN (passesS p days v) days.length else []

def SpansAt (w : World) (A : Option Addr) (c : Nat) (L : List (Int × Int)) : Prop := Rd w 2 A L.length (spcs L) ∧ L.length ≤ c ∧ c ≤ 9223372036854775807
def WindowsPost (w : World) (p : Pol) (days : List Int) (v : Ves) (e : Ending) (w' : World) : Prop :=
  ∃ A c, e = .returned (.tuple #[.slice A (windowsS p days v).length c, .int .i64 (askS p days v)]) ∧ SpansAt w' A c (windowsS p days v) ∧ Below w.heap.size w w'

set_option maxRecDepth 100000 in
set_option maxHeartbeats 2000000 in
theorem Windows_any (As : Option Addr) (cs : Nat) (p : Pol) (A : Option Addr) (c : Nat) (days : List Int) (v : Ves) (w : World) (hp : PolV w As cs p) (hr : Rd w 1 A days.length (ints days)) (hm : days.length ≤ 9223372036854775807) :
    Calls Try.prog 64 #[.agg #[.slice As p.steps.length cs, .int .i64 p.hold, .int .i64 p.calm, .int .i64 p.notice, .int .i64 p.grace], .slice A days.length c, .agg #[.int .i64 v.cls, .int .i64 v.ton, .bool v.esc]] w (WindowsPost w p days v) := by
  obtain ⟨er, her⟩ : ∃ er, er = askS p days v := ⟨_, rfl⟩
  obtain ⟨n, hn⟩ : ∃ n, n = if er = 0 then days.length else 0 := ⟨_, rfl⟩
  have b0 : ∀ o o', Below w.heap.size w ((w.alloc o).alloc o') := fun o o' => ((Below.refl _ _).alloc (Nat.le_refl _) _).alloc (by simp) _
  have hak : ∀ o o', Calls Try.prog 116 #[.agg #[.slice As p.steps.length cs, .int .i64 p.hold, .int .i64 p.calm, .int .i64 p.notice, .int .i64 p.grace], .slice A days.length c, .agg #[.int .i64 v.cls, .int .i64 v.ton, .bool v.esc]]
      ((w.alloc o).alloc o')
      fun e w1 => ∃ A1 c1, e = .returned (.tuple #[.slice A1 n c1, .int .i64 er]) ∧ (er = 0 → BoolsAt w1 A1 c1 (passesS p days v)) ∧ Below w.heap.size w w1 := by
    intro o o'
    refine (asked8_any As cs p A c days v _ ⟨hp.1, hp.2.1, hp.2.2.below (b0 _ _)⟩ (hr.below (b0 _ _)) hm).mono ?_
    rintro e w1 ⟨A1, c1, rfl, h1, h2⟩
    exact ⟨A1, c1, by rw [hn, her], fun h => h1 (her.symm.trans h), (b0 _ _).trans (h2.mono (by simp; omega))⟩
  have HP := Lib.hid (And.intro her (And.intro hn hak))
  clear her hn hak b0 hr hp
  by_cases h0 : er = 0
  · subst h0
    have hne : ((0 : Int) != 0) = false := rfl
    obtain rfl : n = days.length := HP.out.2.1
    have hst : startS p days = 0 := by
      by_cases h : startS p days = 0
      · exact h
      · have := ask_start (v := v) h; rw [← HP.out.1] at this; exact absurd this.symm h
    obtain ⟨_, hl4, _⟩ := start_ok hst
    clear hst
    go_enter Try.func64, Try.ntmps64
    go_wp2_with fail
    refine (HP.out.2.2 _ _).mono ?_
    rintro e w1 ⟨A1, c1, rfl, h1, h2⟩
    obtain ⟨hr1, hc1, hc2⟩ := h1 trivial
    rw [passesS_length] at hr1 hc1
    have HB := Lib.hid h2
    clear h1 h2
    go_wp2_with fail
    obtain ⟨cb, hcb⟩ : ∃ cb, cb = w1.heap.size := ⟨_, rfl⟩
    rw [← hcb]
    obtain ⟨W, hW⟩ : ∃ W, W = w1.alloc (.cells #[.slice none 0 0] 119) := ⟨_, rfl⟩
    rw [← hW]
    have hh : W.heap[cb]? = some (.cells #[.slice none 0 0] 119 (0, 0)) := by rw [hW, hcb]; exact heap_alloc_new _ _
    have kW : Keep [] w1 W := by rw [hW]; exact (Keep.refl _ _).alloc _
    have zW : W.heap.size = cb + 1 := by rw [hW, hcb]; simp
    have hz := HB.out.size
    obtain ⟨l, hl⟩ : ∃ l, l = passesS p days v := ⟨_, rfl⟩
    have hll : l.length = days.length := by rw [hl, passesS_length]
    rw [← hl] at hr1
    have HL := Lib.hid (And.intro hl (And.intro kW hcb))
    clear hl hW kW hcb
    go_loopw [27] (fun i wr => ∃ (k : Nat) (fp : List Nat), k ≤ days.length ∧ i = .int .i64 k ∧ SpansIn wr cb (winN l k) fp ∧ (∀ g ∈ fp, cb + 1 ≤ g) ∧ Keep [cb] W wr)
      (fun i _ => days.length - (intOf i).toNat)
    case atStart => exact ⟨0, [], Nat.zero_le _, rfl, ⟨none, 0, hh, OwnS.nil _ _ _, by simp⟩, by simp, Keep.refl _ _⟩
    case round =>
      obtain ⟨k, fp, hk, rfl, hsp, hfp, hK⟩ := hrel
      by_cases hlt : k < days.length
      · obtain ⟨b, off, rfl, hb, hc⟩ := hr1.2 (by omega)
        have c0 : wr.cell? ⟨b, off + k, none⟩ = some (.bool (l.getD k false)) := hK.cell ((HL.out.2.1.cell (hc k _ (bools_get (by omega))) (by simp))) (by simp; have := HL.out.2.2; omega)
        obtain ⟨x, hx⟩ : ∃ x, x = l.getD k false := ⟨_, rfl⟩
        rw [← hx] at c0
        have HX := Lib.hid (And.intro hx (And.intro hsp (And.intro hfp hK)))
        clear hx hsp hfp hK hc hr1
        cases x
        · go_wp2_with fail
          go_roundw
          case rel =>
            refine ⟨k + 1, fp, by omega, by go_num, ?_, HX.out.2.2.1, HX.out.2.2.2⟩
            rw [winN, ← HX.out.1]; exact HX.out.2.1
          case measure => simp [intOf]; omega
        · have hwl := winN_length l k
          go_wp2_with (go_at_call 117; refine (joinW_any cb (winN l k) fp k wr HX.out.2.1 (by omega) (by omega)).mono ?_; rintro e w2 ⟨rfl, fp2, hs2, hf2, hk2⟩; have H2 := Lib.hid (And.intro hs2 (And.intro hf2 hk2)); clear hs2 hf2 hk2)
          go_roundw
          case rel =>
            have hwr := HX.out.2.2.2.size
            refine ⟨k + 1, fp2, by omega, by go_num, ?_, ?_, HX.out.2.2.2.trans H2.out.2.2 ?_⟩
            · rw [winN, ← HX.out.1]; exact H2.out.1
            · intro g hg
              rcases H2.out.2.1 g hg with h | h
              · exact HX.out.2.2.1 g h
              · omega
            · intro y hy
              rcases List.mem_cons.1 hy with h | h
              · exact .inl (by simp [h])
              · exact .inr (by have := HX.out.2.2.1 y h; omega)
          case measure => simp [intOf]; omega
      · obtain rfl : k = days.length := by omega
        obtain ⟨A2, c2, hh2, hown, hnc⟩ := hsp
        have c0 : wr.cell? ⟨cb, 0, none⟩ = some (.slice A2 (winN l days.length).length c2) := (cell_of_heap hh2 0).trans rfl
        have HO := Lib.hid (And.intro hown hK)
        clear hown hK hh2
        go_wp2_with fail
        go_ret2
        have he : windowsS p days v = winN l days.length := by unfold windowsS; rw [if_pos HP.out.1.symm, HL.out.1]
        refine ⟨A2, c2, by rw [he, ← HP.out.1]; rfl, by rw [he]; exact ⟨HO.out.1.rd, HO.out.1.ge, HO.out.1.cap⟩, ?_⟩
        have b1 : Below w1.heap.size w1 wr := (HL.out.2.1.below (Nat.le_refl _) (by simp)).trans (HO.out.2.below (by have := HL.out.2.2; omega) (by simp; have := HL.out.2.2; omega))
        exact HB.out.trans (b1.mono hz)
  · have hne : (er != 0) = true := by simp [h0]
    have HK := Lib.hid h0
    clear h0
    go_enter Try.func64, Try.ntmps64
    go_wp2_with fail
    refine (HP.out.2.2 _ _).mono ?_
    rintro e w1 ⟨A1, c1, rfl, h1, h2⟩
    have HB := Lib.hid h2
    clear h1 h2
    go_wp2_with fail
    go_ret2
    have he : windowsS p days v = [] := by unfold windowsS; rw [if_neg (by rw [← HP.out.1]; exact HK.out)]
    refine ⟨none, 0, by rw [he, ← HP.out.1]; rfl, by rw [he]; exact ⟨Rd.nil _ _ _, Nat.le_refl _, by omega⟩, HB.out⟩
end Go.Proofs.Ythmldeningpjbaa
/- What the windows of a list of days are. No program is named here. -/
namespace Go.Proofs.Ythmldeningpjbaa
open Sp

/-- what the windows of the first n days are -/
structure WinOk (l : List Bool) (n : Nat) (L : List (Int × Int)) : Prop where
  rng : ∀ s ∈ L, 0 ≤ s.1 ∧ s.1 ≤ s.2 ∧ s.2 < n
  gap : L.Pairwise (fun s t => s.2 + 1 < t.1)
  may : ∀ s ∈ L, ∀ d : Nat, s.1 ≤ d → (d : Int) ≤ s.2 → l.getD d false = true
  all : ∀ d : Nat, d < n → l.getD d false = true → ∃ s ∈ L, s.1 ≤ d ∧ (d : Int) ≤ s.2
theorem winN_ok (l : List Bool) : ∀ n, WinOk l n (winN l n)
  | 0 => ⟨by simp [winN], by simp [winN], by simp [winN], fun d h => absurd h (by omega)⟩
  | n + 1 => by
    have ih := winN_ok l n
    unfold winN
    by_cases hn : l.getD n false = true
    · rw [if_pos hn]
      rcases List.eq_nil_or_concat (winN l n) with h0 | ⟨L', s, h0⟩
      · rw [h0] at ih ⊢
        have e : joinS [] (n : Int) = [((n : Int), (n : Int))] := rfl
        rw [e]
        refine ⟨fun s hs => ?_, by simp, fun s hs d h1 h2 => ?_, fun d h1 h2 => ?_⟩
        · rw [List.mem_singleton.1 hs]; simp; omega
        · rw [List.mem_singleton.1 hs] at h1 h2
          obtain rfl : d = n := by simp at h1 h2; omega
          exact hn
        · by_cases hd : d = n
          · subst hd; exact ⟨_, List.mem_singleton.2 rfl, by simp, by simp⟩
          · obtain ⟨s, hs, _⟩ := ih.all d (by omega) h2
            simp at hs
      · rw [List.concat_eq_append] at h0
        rw [h0] at ih ⊢
        have hsm : s ∈ L' ++ [s] := by simp
        have hs := ih.rng s hsm
        obtain ⟨g1, _, g3⟩ := List.pairwise_append.1 ih.gap
        by_cases hl : s.2 = (n : Int) - 1
        · have e : joinS (L' ++ [s]) (n : Int) = L' ++ [(s.1, (n : Int))] := by
            unfold joinS
            rw [List.getLast?_append]
            simp [hl]
          rw [e]
          refine ⟨fun t ht => ?_, List.pairwise_append.2 ⟨g1, by simp, fun a ha b hb => ?_⟩, fun t ht d h1 h2 => ?_, fun d h1 h2 => ?_⟩
          · rcases List.mem_append.1 ht with h | h
            · have := ih.rng t (List.mem_append.2 (.inl h)); omega
            · rw [List.mem_singleton.1 h]; simp only; omega
          · rw [List.mem_singleton.1 hb]; exact g3 a ha s (by simp)
          · rcases List.mem_append.1 ht with h | h
            · exact ih.may t (List.mem_append.2 (.inl h)) d h1 h2
            · rw [List.mem_singleton.1 h] at h1 h2
              simp only at h1 h2
              by_cases hd : d = n
              · subst hd; exact hn
              · exact ih.may s hsm d h1 (by omega)
          · by_cases hd : d = n
            · subst hd; exact ⟨_, List.mem_append.2 (.inr (List.mem_singleton.2 rfl)), by simp only; omega, by simp⟩
            · obtain ⟨t, ht, h3, h4⟩ := ih.all d (by omega) h2
              rcases List.mem_append.1 ht with h | h
              · exact ⟨t, List.mem_append.2 (.inl h), h3, h4⟩
              · rw [List.mem_singleton.1 h] at h3 h4
                exact ⟨_, List.mem_append.2 (.inr (List.mem_singleton.2 rfl)), h3, by simp only; omega⟩
        · have e : joinS (L' ++ [s]) (n : Int) = (L' ++ [s]) ++ [((n : Int), (n : Int))] := by
            unfold joinS
            rw [List.getLast?_append]
            simp [hl]
          rw [e]
          refine ⟨fun t ht => ?_, List.pairwise_append.2 ⟨ih.gap, by simp, fun a ha b hb => ?_⟩, fun t ht d h1 h2 => ?_, fun d h1 h2 => ?_⟩
          · rcases List.mem_append.1 ht with h | h
            · have := ih.rng t h; omega
            · rw [List.mem_singleton.1 h]; simp only; omega
          · rw [List.mem_singleton.1 hb]
            simp only
            rcases List.mem_append.1 ha with h | h
            · have h5 := g3 a h s (by simp)
              omega
            · rw [List.mem_singleton.1 h]; omega
          · rcases List.mem_append.1 ht with h | h
            · exact ih.may t h d h1 h2
            · rw [List.mem_singleton.1 h] at h1 h2
              obtain rfl : d = n := by simp at h1 h2; omega
              exact hn
          · by_cases hd : d = n
            · subst hd; exact ⟨_, List.mem_append.2 (.inr (List.mem_singleton.2 rfl)), by simp, by simp⟩
            · obtain ⟨t, ht, h3, h4⟩ := ih.all d (by omega) h2
              exact ⟨t, List.mem_append.2 (.inl ht), h3, h4⟩
    · rw [if_neg hn]
      refine ⟨fun s hs => by have := ih.rng s hs; omega, ih.gap, ih.may, fun d h1 h2 => ?_⟩
      by_cases hd : d = n
      · subst hd; exact absurd h2 hn
      · exact ih.all d (by omega) h2
end Go.Proofs.Ythmldeningpjbaa
