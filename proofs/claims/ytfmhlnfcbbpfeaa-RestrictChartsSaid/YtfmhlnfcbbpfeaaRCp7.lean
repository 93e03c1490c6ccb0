/- restrict.Decided, restrict.Force -/
import Derived.Test.YtfmhlnfcbbpfeaaRCp5
set_option linter.unusedVariables false
namespace Go.Proofs.Ytfmhlnfcbbpfeaa
open Go Go.RowKit Sp

theorem OwnA.cap {w : World} {e : TypeId} {A : Option Addr} {n c : Nat} {xs : List Value} {fp : List Nat} (h : OwnA w e A n c xs fp) : c ≤ 9223372036854775807 := by
  rcases h.2 with ⟨_, _, rfl, _⟩ | ⟨g, off, cur, _, _, _, _, h, _⟩
  · omega
  · exact h

/-- what Decided leaves -/
def DecidedPost (w : World) (p : Pol) (days : List Int) (e : Ending) (w' : World) : Prop :=
  ∃ A c, e = .returned (.tuple #[.slice A (if startS p days = 0 then decidedS p days else []).length c, .int .i64 (startS p days)]) ∧ IntsAt w' A c (if startS p days = 0 then decidedS p days else []) ∧ Below w.heap.size w w'

set_option maxRecDepth 100000 in
set_option maxHeartbeats 1000000 in
theorem Decided_any (As : Option Addr) (cs : Nat) (p : Pol) (A : Option Addr) (c : Nat) (days : List Int) (w : World) (hp : PolV w As cs p) (hr : Rd w 1 A days.length (ints days)) (hm : days.length ≤ 9223372036854775807) :
    Calls Try.prog 19 #[.agg #[.slice As p.steps.length cs, .int .i64 p.hold, .int .i64 p.calm, .int .i64 p.notice, .int .i64 p.grace], .slice A days.length c] w (DecidedPost w p days) := by
  obtain ⟨er, her⟩ : ∃ er, er = startS p days := ⟨_, rfl⟩
  have hst : Calls Try.prog 74 #[.agg #[.slice As p.steps.length cs, .int .i64 p.hold, .int .i64 p.calm, .int .i64 p.notice, .int .i64 p.grace], .slice A days.length c]
      (w.alloc (.cells #[.slice As p.steps.length cs, .int .i64 p.hold, .int .i64 p.calm, .int .i64 p.notice, .int .i64 p.grace] 25))
      fun e w1 => ∃ pp, e = .returned (.tuple #[.agg #[.pointer pp], .int .i64 er]) ∧ Below w.heap.size w w1 ∧ (er = 0 → ∃ pb, pp = some ⟨pb, 0, none⟩ ∧ PolAt w1 pb p) := by
    refine (start_any As cs p A c days _ ⟨hp.1, hp.2.1, hp.2.2.below ((Below.refl _ _).alloc (Nat.le_refl _) _)⟩ (hr.below ((Below.refl _ _).alloc (Nat.le_refl _) _)) hm).mono ?_
    rintro e w1 ⟨pp, rfl, hB, h0, _⟩
    exact ⟨pp, by rw [her], ((Below.refl _ _).alloc (Nat.le_refl _) _).trans (hB.mono (by simp)), fun h => h0 (her.symm.trans h)⟩
  have HP := Lib.hid (And.intro her (And.intro hr hst))
  clear her hst
  by_cases h0 : er = 0
  · subst h0
    have hs0 : startS p days = 0 := HP.out.1.symm
    obtain ⟨hck, hl4, _⟩ := start_ok hs0
    obtain ⟨k1, k2, k3, k4, k5, k6, k7, k8, k9, k10⟩ := check_ok hck
    have hne : ((0 : Int) != 0) = false := rfl
    have HK := Lib.hid (And.intro hs0 (And.intro k1 (And.intro k3 (And.intro k4 (And.intro k5 (And.intro k6 (And.intro k7 k8)))))))
    clear hs0 hck k1 k2 k3 k4 k5 k6 k7 k8 k9 k10 hr
    go_enter Try.func19, Try.ntmps19
    go_wp2_with fail
    refine HP.out.2.2.mono ?_
    rintro e w1 ⟨pp, rfl, hB, h0⟩
    obtain ⟨pb, rfl, hpol⟩ := h0 trivial
    have HB := Lib.hid (And.intro hB hpol)
    clear hB hpol h0
    go_wp2_with fail
    refine (decided_any pb p A c days _ (HB.out.2.below ((Below.refl _ _).alloc (Nat.le_refl _) _)) ⟨HK.out.2.2.1, by have := HK.out.2.2.2.1; omega⟩ ⟨HK.out.2.2.2.2.1, by have := HK.out.2.2.2.2.2.1; omega⟩ ((HP.out.2.1.below HB.out.1).below ((Below.refl _ _).alloc (Nat.le_refl _) _)) (by omega)).mono ?_
    rintro e w2 ⟨A2, c2, q2, rfl, o2, n2, b2⟩
    go_wp2_with fail
    go_ret2
    refine ⟨A2, c2, ?_, ?_, ?_⟩
    · rw [if_pos HK.out.1, HK.out.1, decidedS_length]; rfl
    · rw [if_pos HK.out.1]; exact ⟨by rw [decidedS_length]; exact o2.rd, by rw [decidedS_length]; exact o2.ge, o2.cap⟩
    · exact HB.out.1.trans (((Below.refl _ _).alloc (Nat.le_refl _) _).trans (b2.mono (by simp)) |>.mono HB.out.1.size)
  · have hne : (er != 0) = true := by simp [h0]
    have hs0 : startS p days ≠ 0 := fun h => h0 (HP.out.1.trans h)
    have HK := Lib.hid hs0
    clear hs0 h0 hr
    go_enter Try.func19, Try.ntmps19
    go_wp2_with fail
    refine HP.out.2.2.mono ?_
    rintro e w1 ⟨pp, rfl, hB, _⟩
    have HB := Lib.hid hB
    clear hB
    go_wp2_with fail
    go_ret2
    refine ⟨none, 0, ?_, ?_, HB.out.alloc HB.out.size _⟩
    · rw [if_neg HK.out, ← HP.out.1]; rfl
    · rw [if_neg HK.out]; exact ⟨Rd.nil _ _ _, Nat.le_refl _, by omega⟩

/-- what Force leaves -/
def ForcePost (w : World) (p : Pol) (days : List Int) (e : Ending) (w' : World) : Prop :=
  ∃ A c, e = .returned (.tuple #[.slice A (if startS p days = 0 then forceS p days else []).length c, .int .i64 (startS p days)]) ∧ IntsAt w' A c (if startS p days = 0 then forceS p days else []) ∧ Below w.heap.size w w'

set_option maxRecDepth 100000 in
set_option maxHeartbeats 1000000 in
theorem Force_any (As : Option Addr) (cs : Nat) (p : Pol) (A : Option Addr) (c : Nat) (days : List Int) (w : World) (hp : PolV w As cs p) (hr : Rd w 1 A days.length (ints days)) (hm : days.length ≤ 9223372036854775807) :
    Calls Try.prog 21 #[.agg #[.slice As p.steps.length cs, .int .i64 p.hold, .int .i64 p.calm, .int .i64 p.notice, .int .i64 p.grace], .slice A days.length c] w (ForcePost w p days) := by
  obtain ⟨er, her⟩ : ∃ er, er = startS p days := ⟨_, rfl⟩
  have hst : Calls Try.prog 74 #[.agg #[.slice As p.steps.length cs, .int .i64 p.hold, .int .i64 p.calm, .int .i64 p.notice, .int .i64 p.grace], .slice A days.length c]
      (w.alloc (.cells #[.slice As p.steps.length cs, .int .i64 p.hold, .int .i64 p.calm, .int .i64 p.notice, .int .i64 p.grace] 25))
      fun e w1 => ∃ pp, e = .returned (.tuple #[.agg #[.pointer pp], .int .i64 er]) ∧ Below w.heap.size w w1 ∧ (er = 0 → ∃ pb, pp = some ⟨pb, 0, none⟩ ∧ PolAt w1 pb p) := by
    refine (start_any As cs p A c days _ ⟨hp.1, hp.2.1, hp.2.2.below ((Below.refl _ _).alloc (Nat.le_refl _) _)⟩ (hr.below ((Below.refl _ _).alloc (Nat.le_refl _) _)) hm).mono ?_
    rintro e w1 ⟨pp, rfl, hB, h0, _⟩
    exact ⟨pp, by rw [her], ((Below.refl _ _).alloc (Nat.le_refl _) _).trans (hB.mono (by simp)), fun h => h0 (her.symm.trans h)⟩
  have HP := Lib.hid (And.intro her (And.intro hr hst))
  clear her hst
  by_cases h0 : er = 0
  · subst h0
    have hs0 : startS p days = 0 := HP.out.1.symm
    obtain ⟨hck, hl4, _⟩ := start_ok hs0
    obtain ⟨k1, k2, k3, k4, k5, k6, k7, k8, k9, k10⟩ := check_ok hck
    have hne : ((0 : Int) != 0) = false := rfl
    have HK := Lib.hid (And.intro hs0 (And.intro k1 (And.intro k3 (And.intro k4 (And.intro k5 (And.intro k6 (And.intro k7 k8)))))))
    clear hs0 hck k1 k2 k3 k4 k5 k6 k7 k8 k9 k10 hr
    go_enter Try.func21, Try.ntmps21
    go_wp2_with fail
    refine HP.out.2.2.mono ?_
    rintro e w1 ⟨pp, rfl, hB, h0⟩
    obtain ⟨pb, rfl, hpol⟩ := h0 trivial
    have HB := Lib.hid (And.intro hB hpol)
    clear hB hpol h0
    go_wp2_with fail
    refine (force_any pb p A c days _ (HB.out.2.below ((Below.refl _ _).alloc (Nat.le_refl _) _)) ⟨HK.out.2.2.1, by have := HK.out.2.2.2.1; omega⟩ ⟨HK.out.2.2.2.2.1, by have := HK.out.2.2.2.2.2.1; omega⟩ ⟨HK.out.2.2.2.2.2.2.1, by have := HK.out.2.2.2.2.2.2.2; omega⟩ ((HP.out.2.1.below HB.out.1).below ((Below.refl _ _).alloc (Nat.le_refl _) _)) (by omega)).mono ?_
    rintro e w2 ⟨A2, c2, rfl, i2, b2⟩
    go_wp2_with fail
    go_ret2
    refine ⟨A2, c2, ?_, ?_, ?_⟩
    · rw [if_pos HK.out.1, HK.out.1, forceS_length]; rfl
    · rw [if_pos HK.out.1]; exact i2
    · exact HB.out.1.trans (((Below.refl _ _).alloc (Nat.le_refl _) _).trans (b2.mono (by simp)) |>.mono HB.out.1.size)
  · have hne : (er != 0) = true := by simp [h0]
    have hs0 : startS p days ≠ 0 := fun h => h0 (HP.out.1.trans h)
    have HK := Lib.hid hs0
    clear hs0 h0 hr
    go_enter Try.func21, Try.ntmps21
    go_wp2_with fail
    refine HP.out.2.2.mono ?_
    rintro e w1 ⟨pp, rfl, hB, _⟩
    have HB := Lib.hid hB
    clear hB
    go_wp2_with fail
    go_ret2
    refine ⟨none, 0, ?_, ?_, HB.out.alloc HB.out.size _⟩
    · rw [if_neg HK.out, ← HP.out.1]; rfl
    · rw [if_neg HK.out]; exact ⟨Rd.nil _ _ _, Nat.le_refl _, by omega⟩

end Go.Proofs.Ytfmhlnfcbbpfeaa
/- restrict.asked, restrict.May, slices.Index of a bool -/
namespace Go.Proofs.Ytfmhlnfcbbpfeaa
open Go Go.RowKit Sp

/-- the error of asked -/
def askS (p : Pol) (days : List Int) (v : Ves) : Int := if startS p days ≠ 0 then startS p days else if vright v then 0 else 1
theorem ask_start {p : Pol} {days : List Int} {v : Ves} (h : startS p days ≠ 0) : askS p days v = startS p days := by unfold askS; rw [if_pos h]
theorem ask_right {p : Pol} {days : List Int} {v : Ves} (h : startS p days = 0) : askS p days v = if vright v then 0 else 1 := by unfold askS; rw [if_neg (fun f => f h)]
theorem vright_cls {v : Ves} (h : vright v = true) : -1000000000 ≤ v.cls ∧ v.cls ≤ 1000000000 := by simp [vright, within] at h; omega

def BoolsAt (w : World) (A : Option Addr) (c : Nat) (l : List Bool) : Prop := Rd w 1 A l.length (bools l) ∧ l.length ≤ c ∧ c ≤ 9223372036854775807
def askedPost (w : World) (p : Pol) (days : List Int) (v : Ves) (e : Ending) (w' : World) : Prop :=
  ∃ A c, e = .returned (.tuple #[.slice A (if askS p days v = 0 then days.length else 0) c, .int .i64 (askS p days v)]) ∧ (askS p days v = 0 → BoolsAt w' A c (passesS p days v)) ∧ Below w.heap.size w w'

set_option maxRecDepth 100000 in
set_option maxHeartbeats 1000000 in
theorem asked_any (As : Option Addr) (cs : Nat) (p : Pol) (A : Option Addr) (c : Nat) (days : List Int) (v : Ves) (w : World) (hp : PolV w As cs p) (hr : Rd w 1 A days.length (ints days)) (hm : days.length ≤ 9223372036854775807) :
    Calls Try.prog 82 #[.agg #[.slice As p.steps.length cs, .int .i64 p.hold, .int .i64 p.calm, .int .i64 p.notice, .int .i64 p.grace], .slice A days.length c, .agg #[.int .i64 v.cls, .int .i64 v.ton, .bool v.esc]] w (askedPost w p days v) := by
  obtain ⟨er, her⟩ : ∃ er, er = startS p days := ⟨_, rfl⟩
  have b0 : ∀ o o', Below w.heap.size w ((w.alloc o).alloc o') := fun o o' => ((Below.refl _ _).alloc (Nat.le_refl _) _).alloc (by simp) _
  have hst : Calls Try.prog 74 #[.agg #[.slice As p.steps.length cs, .int .i64 p.hold, .int .i64 p.calm, .int .i64 p.notice, .int .i64 p.grace], .slice A days.length c]
      ((w.alloc (.cells #[.slice As p.steps.length cs, .int .i64 p.hold, .int .i64 p.calm, .int .i64 p.notice, .int .i64 p.grace] 25)).alloc (.cells #[.int .i64 v.cls, .int .i64 v.ton, .bool v.esc] 33))
      fun e w1 => ∃ pp, e = .returned (.tuple #[.agg #[.pointer pp], .int .i64 er]) ∧ (Below w.heap.size w w1 ∧ w.heap.size + 2 ≤ w1.heap.size) ∧ (er = 0 → ∃ pb, pp = some ⟨pb, 0, none⟩ ∧ PolAt w1 pb p) ∧
        w1.cell? ⟨w.heap.size + 1, 0, none⟩ = some (.int .i64 v.cls) ∧ w1.cell? ⟨w.heap.size + 1, 1, none⟩ = some (.int .i64 v.ton) ∧ w1.cell? ⟨w.heap.size + 1, 2, none⟩ = some (.bool v.esc) := by
    refine (start_any As cs p A c days _ ⟨hp.1, hp.2.1, hp.2.2.below (b0 _ _)⟩ (hr.below (b0 _ _)) hm).mono ?_
    rintro e w1 ⟨pp, rfl, hB, h0, _⟩
    have fv : ∀ j u, (#[Value.int .i64 v.cls, .int .i64 v.ton, .bool v.esc] : Array Value)[j]? = some u → w1.cell? ⟨w.heap.size + 1, j, none⟩ = some u := by
      intro j u hu
      rw [hB.cell (p := ⟨w.heap.size + 1, j, none⟩) (by simp)]
      rw [← hu]
      have := World.cell?_alloc_new (w.alloc (.cells #[.slice As p.steps.length cs, .int .i64 p.hold, .int .i64 p.calm, .int .i64 p.notice, .int .i64 p.grace] 25)) #[Value.int .i64 v.cls, .int .i64 v.ton, .bool v.esc] 33 j
      rw [World.size_alloc] at this
      exact this
    exact ⟨pp, by rw [her], ⟨(b0 _ _).trans (hB.mono (by simp; omega)), by have := hB.size; simp at this; omega⟩, fun h => h0 (her.symm.trans h), fv 0 _ rfl, fv 1 _ rfl, fv 2 _ rfl⟩
  have HP := Lib.hid (And.intro her (And.intro hr hst))
  clear her hst b0
  by_cases h0 : er = 0
  · subst h0
    have hs0 : startS p days = 0 := HP.out.1.symm
    obtain ⟨hck, hl4, _⟩ := start_ok hs0
    obtain ⟨k1, k2, k3, k4, k5, k6, k7, k8, k9, k10⟩ := check_ok hck
    have hne : ((0 : Int) != 0) = false := rfl
    have HK := Lib.hid (And.intro hs0 (And.intro k1 (And.intro k3 (And.intro k4 (And.intro k5 (And.intro k6 (And.intro k7 k8)))))))
    clear hs0 hck k1 k2 k3 k4 k5 k6 k7 k8 k9 k10 hr
    obtain ⟨vr, hvr⟩ : ∃ vr, vr = vright v := ⟨_, rfl⟩
    have hrt : ∀ wx, Calls Try.prog 75 #[.agg #[.int .i64 v.cls, .int .i64 v.ton, .bool v.esc]] wx fun e w' => e = .returned (.bool vr) ∧ Below wx.heap.size wx w' := fun wx => by rw [hvr]; exact right_any v wx
    have HV := Lib.hid (And.intro hvr hrt)
    clear hvr hrt
    cases vr
    · go_enter Try.func82, Try.ntmps82
      go_wp2_with fail
      refine HP.out.2.2.mono ?_
      rintro e w1 ⟨pp, rfl, hB, h0, f0, f1, f2⟩
      obtain ⟨pb, rfl, hpol⟩ := h0 trivial
      have HB := Lib.hid (And.intro hB hpol)
      have hsz : w.heap.size + 1 < w1.heap.size := hB.2
      clear hB hpol h0
      go_wp2_with (go_at_call 75; refine (HV.out.2 _).mono ?_; rintro e w2 ⟨rfl, b2⟩)
      go_ret2
      refine ⟨none, 0, ?_, ?_, ?_⟩
      · rw [ask_right HK.out.1, ← HV.out.1]; rfl
      · rw [ask_right HK.out.1, ← HV.out.1]; intro h; cases h
      · have := HB.out.1.2
        exact (HB.out.1.1.alloc (by omega) _).trans (b2.mono (by simp; omega))
    · go_enter Try.func82, Try.ntmps82
      go_wp2_with fail
      refine HP.out.2.2.mono ?_
      rintro e w1 ⟨pp, rfl, hB, h0, f0, f1, f2⟩
      obtain ⟨pb, rfl, hpol⟩ := h0 trivial
      have HB := Lib.hid (And.intro hB hpol)
      have hsz : w.heap.size + 1 < w1.heap.size := hB.2
      clear hB hpol h0
      have hB2 : Below w.heap.size w w1 ∧ w.heap.size ≤ w1.heap.size := ⟨HB.out.1.1, by omega⟩
      go_wp2_with (go_at_call 75; refine (HV.out.2 _).mono ?_; rintro e w2 ⟨rfl, b2⟩
                   have bb : Below w1.heap.size w1 w2 := ((Below.refl _ _).alloc (Nat.le_refl _) _).trans (b2.mono (by simp))
                   have f0' := (bb.cell (p := ⟨w.heap.size + 1, 0, none⟩) hsz).trans f0
                   have f1' := (bb.cell (p := ⟨w.heap.size + 1, 1, none⟩) hsz).trans f1
                   have f2' := (bb.cell (p := ⟨w.heap.size + 1, 2, none⟩) hsz).trans f2
                   have f3' : w2.cell? ⟨w1.heap.size, 0, none⟩ = some (.pointer (some ⟨pb, 0, none⟩)) := by
                     rw [b2.cell (p := ⟨w1.heap.size, 0, none⟩) (by simp)]
                     exact cell_new_one _ _ _
                   have BB := Lib.hid bb
                   clear bb b2 f0 f1 f2)
      have bt : Below w.heap.size w w2 := hB2.1.trans (BB.out.mono hB2.2)
      refine (passes_any pb p A c days v w2 (HB.out.2.below BB.out) ⟨HK.out.2.2.1, by have := HK.out.2.2.2.1; omega⟩ ⟨HK.out.2.2.2.2.1, by have := HK.out.2.2.2.2.2.1; omega⟩ ⟨HK.out.2.2.2.2.2.2.1, by have := HK.out.2.2.2.2.2.2.2; omega⟩ HK.out.2.1 (vright_cls HV.out.1.symm) (HP.out.2.1.below bt) (by omega)).mono ?_
      rintro e w3 ⟨A3, c3, q3, rfl, o3, n3, b3⟩
      go_wp2_with fail
      go_ret2
      refine ⟨A3, c3, ?_, ?_, ?_⟩
      · rw [ask_right HK.out.1, ← HV.out.1]; rfl
      · intro _; exact ⟨by rw [passesS_length]; exact o3.rd, by rw [passesS_length]; exact o3.ge, o3.cap⟩
      · exact bt.trans (b3.mono bt.size)
  · have hne : (er != 0) = true := by simp [h0]
    have hs0 : startS p days ≠ 0 := fun h => h0 (HP.out.1.trans h)
    have HK := Lib.hid (And.intro hs0 h0)
    clear hs0 h0 hr
    go_enter Try.func82, Try.ntmps82
    go_wp2_with fail
    refine HP.out.2.2.mono ?_
    rintro e w1 ⟨pp, rfl, hB, _⟩
    have HB := Lib.hid hB
    clear hB
    go_wp2_with fail
    go_ret2
    refine ⟨none, 0, ?_, ?_, HB.out.1.alloc HB.out.1.size _⟩
    · rw [ask_start HK.out.1, if_neg HK.out.1, ← HP.out.1]; rfl
    · rw [ask_start HK.out.1]; intro h; exact absurd h HK.out.1

/-- what May leaves -/
def mayE (p : Pol) (days : List Int) (v : Ves) (day : Int) : Int := if askS p days v ≠ 0 then askS p days v else if within day 0 ((days.length : Int) - 1) then 0 else 6
def mayB (p : Pol) (days : List Int) (v : Ves) (day : Int) : Bool := if mayE p days v day = 0 then (passesS p days v).getD day.toNat false else false
theorem may_ask {p : Pol} {days : List Int} {v : Ves} {day : Int} (h : askS p days v ≠ 0) : mayE p days v day = askS p days v := by unfold mayE; rw [if_pos h]
theorem may_day {p : Pol} {days : List Int} {v : Ves} {day : Int} (h : askS p days v = 0) : mayE p days v day = if within day 0 ((days.length : Int) - 1) then 0 else 6 := by unfold mayE; rw [if_neg (fun f => f h)]

set_option maxRecDepth 100000 in
set_option maxHeartbeats 1000000 in
theorem May_any (As : Option Addr) (cs : Nat) (p : Pol) (A : Option Addr) (c : Nat) (days : List Int) (v : Ves) (day : Int) (w : World) (hp : PolV w As cs p) (hr : Rd w 1 A days.length (ints days)) (hm : days.length ≤ 9223372036854775807) :
    Calls Try.prog 17 #[.agg #[.slice As p.steps.length cs, .int .i64 p.hold, .int .i64 p.calm, .int .i64 p.notice, .int .i64 p.grace], .slice A days.length c, .agg #[.int .i64 v.cls, .int .i64 v.ton, .bool v.esc], .int .i64 day] w
      fun e w' => e = .returned (.tuple #[.bool (mayB p days v day), .int .i64 (mayE p days v day)]) ∧ Below w.heap.size w w' := by
  obtain ⟨er, her⟩ : ∃ er, er = askS p days v := ⟨_, rfl⟩
  obtain ⟨n, hn⟩ : ∃ n, n = if er = 0 then days.length else 0 := ⟨_, rfl⟩
  have b0 : ∀ o o', Below w.heap.size w ((w.alloc o).alloc o') := fun o o' => ((Below.refl _ _).alloc (Nat.le_refl _) _).alloc (by simp) _
  have hak : ∀ o o', Calls Try.prog 82 #[.agg #[.slice As p.steps.length cs, .int .i64 p.hold, .int .i64 p.calm, .int .i64 p.notice, .int .i64 p.grace], .slice A days.length c, .agg #[.int .i64 v.cls, .int .i64 v.ton, .bool v.esc]]
      ((w.alloc o).alloc o')
      fun e w1 => ∃ A1 c1, e = .returned (.tuple #[.slice A1 n c1, .int .i64 er]) ∧ (er = 0 → BoolsAt w1 A1 c1 (passesS p days v)) ∧ Below w.heap.size w w1 := by
    intro o o'
    refine (asked_any As cs p A c days v _ ⟨hp.1, hp.2.1, hp.2.2.below (b0 _ _)⟩ (hr.below (b0 _ _)) hm).mono ?_
    rintro e w1 ⟨A1, c1, rfl, h1, h2⟩
    exact ⟨A1, c1, by rw [hn, her], fun h => h1 (her.symm.trans h), (b0 _ _).trans (h2.mono (by simp; omega))⟩
  have HP := Lib.hid (And.intro her (And.intro hn hak))
  clear her hn hak b0 hr
  by_cases h0 : er = 0
  · subst h0
    have hne : ((0 : Int) != 0) = false := rfl
    obtain rfl : n = days.length := HP.out.2.1
    obtain ⟨dr, hdr⟩ : ∃ dr, dr = within day 0 ((days.length : Int) - 1) := ⟨_, rfl⟩
    have hin : ∀ wx, Calls Try.prog 76 #[.int .i64 day, .int .i64 0, .int .i64 ((days.length : Int) - 1)] wx fun e w' => e = .returned (.bool dr) ∧ wx = w' := fun wx => by rw [hdr]; exact within_any day 0 _ wx
    have HD := Lib.hid (And.intro hdr hin)
    clear hdr hin
    cases dr
    · go_enter Try.func17, Try.ntmps17
      go_wp2_with fail
      refine (HP.out.2.2 _ _).mono ?_
      rintro e w1 ⟨A1, c1, rfl, h1, h2⟩
      have HB := Lib.hid (And.intro h1 h2)
      clear h1 h2
      go_wp2_with (go_at_call 76; refine (HD.out.2 _).mono ?_; rintro e w2 ⟨rfl, rfl⟩)
      go_ret2
      have he : mayE p days v day = 6 := by rw [may_day HP.out.1.symm, ← HD.out.1]; rfl
      refine ⟨?_, HB.out.2⟩
      rw [mayB, he]; rfl
    · have hlt : 0 ≤ day ∧ day < days.length := by have := HD.out.1; simp [within] at this; omega
      obtain ⟨k, rfl⟩ : ∃ k : Nat, day = k := ⟨day.toNat, by omega⟩
      have hlt' : k < days.length := by omega
      clear hlt
      go_enter Try.func17, Try.ntmps17
      go_wp2_with fail
      refine (HP.out.2.2 _ _).mono ?_
      rintro e w1 ⟨A1, c1, rfl, h1, h2⟩
      obtain ⟨hr1, hc1, hc2⟩ := h1 trivial
      rw [passesS_length] at hr1 hc1
      obtain ⟨b, off, rfl, hb, hc⟩ := hr1.2 (by omega)
      have c0 := hc k _ (bools_get (by rw [passesS_length]; exact hlt'))
      have HB := Lib.hid h2
      clear h1 h2 hc hr1
      go_wp2_with (go_at_call 76; refine (HD.out.2 _).mono ?_; rintro e w2 ⟨rfl, rfl⟩)
      go_ret2
      have he : mayE p days v (k : Int) = 0 := by rw [may_day HP.out.1.symm, ← HD.out.1]; rfl
      refine ⟨?_, HB.out⟩
      rw [mayB, he]; rfl
  · have hne : (er != 0) = true := by simp [h0]
    have HK := Lib.hid h0
    clear h0
    go_enter Try.func17, Try.ntmps17
    go_wp2_with fail
    refine (HP.out.2.2 _ _).mono ?_
    rintro e w1 ⟨A1, c1, rfl, h1, h2⟩
    have HB := Lib.hid h2
    clear h1 h2
    go_wp2_with fail
    go_ret2
    have he : mayE p days v day = er := by rw [may_ask (by rw [← HP.out.1]; exact HK.out), HP.out.1]
    refine ⟨?_, HB.out⟩
    rw [mayB, he, if_neg HK.out]; rfl

/-- where a Bool comes first -/
def idxL (t : Bool) : List Bool → Int
  | [] => -1
  | x :: l => if t = x then 0 else if idxL t l = -1 then -1 else idxL t l + 1
theorem idxL_append {t : Bool} {l m : List Bool} (h : ∀ x ∈ l, t ≠ x) : idxL t (l ++ t :: m) = l.length := by
  induction l with
  | nil => simp [idxL]
  | cons x l ih =>
    rw [List.cons_append, idxL, if_neg (h x (by simp)), ih (fun y hy => h y (by simp [hy]))]
    rw [if_neg (by omega)]; simp
theorem idxL_none {t : Bool} {l : List Bool} (h : ∀ x ∈ l, t ≠ x) : idxL t l = -1 := by
  induction l with
  | nil => rfl
  | cons x l ih => rw [idxL, if_neg (h x (by simp)), ih (fun y hy => h y (by simp [hy])), if_pos rfl]

set_option maxHeartbeats 1000000 in
theorem indexB_any (A : Option Addr) (c : Nat) (l : List Bool) (t : Bool) (w : World) (hr : Rd w 1 A l.length (bools l)) (hm : l.length ≤ 9223372036854775807) :
    Calls Try.prog 78 #[.slice A l.length c, .bool t] w fun e w' => e = .returned (.int .i64 (idxL t l)) ∧ w = w' := by
  go_enter Try.func78, Try.ntmps78
  go_wp2_with fail
  go_loopg [8] (l.length) (fun g i wr => ∃ k : Nat, g + k = l.length ∧ i = .int .i64 k ∧ (∀ x ∈ l.take k, t ≠ x) ∧ w = wr)
  case atStart => exact ⟨0, rfl, rfl, by simp, rfl⟩
  case round =>
    obtain ⟨k, hk, rfl, hb, rfl⟩ := hrel
    have HB := Lib.hid hb
    clear hb
    by_cases hlt : k < l.length
    · obtain ⟨b, off, rfl, hbb, hc⟩ := hr.2 (by omega)
      have c0 := hc k _ (bools_get hlt)
      have hx : l.getD k false = l[k] := by simp [hlt]
      rw [hx] at c0
      have HX := Lib.hid hx
      clear hx hc hr
      cases hz : (t == l[k])
      · go_wp2_with fail
        go_roundg (gk - 1)
        case measure => omega
        case rel =>
          refine ⟨k + 1, by omega, by go_num, ?_, rfl⟩
          rw [List.take_succ_eq_append_getElem hlt]
          intro x hx
          rcases List.mem_append.1 hx with h1 | h1
          · exact HB.out x h1
          · rw [List.mem_singleton.1 h1]; simpa using hz
      · go_wp2_with fail
        go_ret
        refine ⟨?_, rfl⟩
        have e1 : l = l.take k ++ t :: l.drop (k + 1) := by
          have e2 : t = l[k] := by simpa using hz
          conv => lhs; rw [← List.take_append_drop k l, List.drop_eq_getElem_cons hlt]
          rw [e2]
        have e3 : idxL t l = k := by rw [e1, idxL_append HB.out, List.length_take, Nat.min_eq_left (by omega)]
        rw [e3]; rfl
    · obtain rfl : k = l.length := by omega
      go_wp2_with fail
      go_ret
      exact ⟨by rw [idxL_none (by have := HB.out; rwa [List.take_length] at this)]; rfl, rfl⟩
end Go.Proofs.Ytfmhlnfcbbpfeaa
