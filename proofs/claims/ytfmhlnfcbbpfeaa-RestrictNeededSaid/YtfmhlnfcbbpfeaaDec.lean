/- restrict.Decided, restrict.Force -/
import Derived.Test.YtfmhlnfcbbpfeaaStart
namespace Go.Proofs.Ytfmhlnfcbbpfeaa
open Go Go.RowKit Sp

theorem OwnA.cap {w : World} {e : TypeId} {A : Option Addr} {n c : Nat} {xs : List Value} {fp : List Nat} (h : OwnA w e A n c xs fp) : c ≤ 9223372036854775807 := by
  rcases h.2 with ⟨_, _, rfl, _⟩ | ⟨g, off, cur, _, _, _, _, h, _⟩
  · omega
  · exact h

/-- what Decided leaves -/
def DecidedPost (w : World) (p : Pol) (days : List Int) (e : Ending) (w' : World) : Prop :=
  ∃ A c, e = .returned (.tuple #[.slice A (if startS p days = 0 then decidedS p days else []).length c, .int .i64 (startS p days)]) ∧ IntsAt w' A c (if startS p days = 0 then decidedS p days else []) ∧ Below w.heap.size w w'

set_option maxRecDepth 100000 in
set_option maxHeartbeats 1000000 in
theorem Decided_any (As : Option Addr) (cs : Nat) (p : Pol) (A : Option Addr) (c : Nat) (days : List Int) (w : World) (hp : PolV w As cs p) (hr : Rd w 1 A days.length (ints days)) (hm : days.length ≤ 9223372036854775807) :
    Calls Try.prog 19 #[.agg #[.slice As p.steps.length cs, .int .i64 p.hold, .int .i64 p.calm, .int .i64 p.notice, .int .i64 p.grace], .slice A days.length c] w (DecidedPost w p days) := by
  obtain ⟨er, her⟩ : ∃ er, er = startS p days := ⟨_, rfl⟩
  have hst : Calls Try.prog 74 #[.agg #[.slice As p.steps.length cs, .int .i64 p.hold, .int .i64 p.calm, .int .i64 p.notice, .int .i64 p.grace], .slice A days.length c]
      (w.alloc (.cells #[.slice As p.steps.length cs, .int .i64 p.hold, .int .i64 p.calm, .int .i64 p.notice, .int .i64 p.grace] 25))
      fun e w1 => ∃ pp, e = .returned (.tuple #[.agg #[.pointer pp], .int .i64 er]) ∧ Below w.heap.size w w1 ∧ (er = 0 → ∃ pb, pp = some ⟨pb, 0, none⟩ ∧ PolAt w1 pb p) := by
    refine (start_any As cs p A c days _ ⟨hp.1, hp.2.1, hp.2.2.below ((Below.refl _ _).alloc (Nat.le_refl _) _)⟩ (hr.below ((Below.refl _ _).alloc (Nat.le_refl _) _)) hm).mono ?_
    rintro e w1 ⟨pp, rfl, hB, h0, _⟩
    exact ⟨pp, by rw [her], ((Below.refl _ _).alloc (Nat.le_refl _) _).trans (hB.mono (by simp)), fun h => h0 (her.symm.trans h)⟩
  have HP := Lib.hid (And.intro her (And.intro hr hst))
  clear her hst
  by_cases h0 : er = 0
  · subst h0
    have hs0 : startS p days = 0 := HP.out.1.symm
    obtain ⟨hck, hl4, _⟩ := start_ok hs0
    obtain ⟨k1, k2, k3, k4, k5, k6, k7, k8, k9, k10⟩ := check_ok hck
    have hne : ((0 : Int) != 0) = false := rfl
    have HK := Lib.hid (And.intro hs0 (And.intro k1 (And.intro k3 (And.intro k4 (And.intro k5 (And.intro k6 (And.intro k7 k8)))))))
    clear hs0 hck k1 k2 k3 k4 k5 k6 k7 k8 k9 k10 hr
    go_enter Try.func19, Try.ntmps19
    go_wp2_with fail
    refine HP.out.2.2.mono ?_
    rintro e w1 ⟨pp, rfl, hB, h0⟩
    obtain ⟨pb, rfl, hpol⟩ := h0 trivial
    have HB := Lib.hid (And.intro hB hpol)
    clear hB hpol h0
    go_wp2_with fail
    refine (decided_any pb p A c days _ (HB.out.2.below ((Below.refl _ _).alloc (Nat.le_refl _) _)) ⟨HK.out.2.2.1, by have := HK.out.2.2.2.1; omega⟩ ⟨HK.out.2.2.2.2.1, by have := HK.out.2.2.2.2.2.1; omega⟩ ((HP.out.2.1.below HB.out.1).below ((Below.refl _ _).alloc (Nat.le_refl _) _)) (by omega)).mono ?_
    rintro e w2 ⟨A2, c2, q2, rfl, o2, n2, b2⟩
    go_wp2_with fail
    go_ret2
    refine ⟨A2, c2, ?_, ?_, ?_⟩
    · rw [if_pos HK.out.1, HK.out.1, decidedS_length]; rfl
    · rw [if_pos HK.out.1]; exact ⟨by rw [decidedS_length]; exact o2.rd, by rw [decidedS_length]; exact o2.ge, o2.cap⟩
    · exact HB.out.1.trans (((Below.refl _ _).alloc (Nat.le_refl _) _).trans (b2.mono (by simp)) |>.mono HB.out.1.size)
  · have hne : (er != 0) = true := by simp [h0]
    have hs0 : startS p days ≠ 0 := fun h => h0 (HP.out.1.trans h)
    have HK := Lib.hid hs0
    clear hs0 h0 hr
    go_enter Try.func19, Try.ntmps19
    go_wp2_with fail
    refine HP.out.2.2.mono ?_
    rintro e w1 ⟨pp, rfl, hB, _⟩
    have HB := Lib.hid hB
    clear hB
    go_wp2_with fail
    go_ret2
    refine ⟨none, 0, ?_, ?_, HB.out.alloc HB.out.size _⟩
    · rw [if_neg HK.out, ← HP.out.1]; rfl
    · rw [if_neg HK.out]; exact ⟨Rd.nil _ _ _, Nat.le_refl _, by omega⟩

/-- what Force leaves -/
def ForcePost (w : World) (p : Pol) (days : List Int) (e : Ending) (w' : World) : Prop :=
  ∃ A c, e = .returned (.tuple #[.slice A (if startS p days = 0 then forceS p days else []).length c, .int .i64 (startS p days)]) ∧ IntsAt w' A c (if startS p days = 0 then forceS p days else []) ∧ Below w.heap.size w w'

set_option maxRecDepth 100000 in
set_option maxHeartbeats 1000000 in
theorem Force_any (As : Option Addr) (cs : Nat) (p : Pol) (A : Option Addr) (c : Nat) (days : List Int) (w : World) (hp : PolV w As cs p) (hr : Rd w 1 A days.length (ints days)) (hm : days.length ≤ 9223372036854775807) :
    Calls Try.prog 21 #[.agg #[.slice As p.steps.length cs, .int .i64 p.hold, .int .i64 p.calm, .int .i64 p.notice, .int .i64 p.grace], .slice A days.length c] w (ForcePost w p days) := by
  obtain ⟨er, her⟩ : ∃ er, er = startS p days := ⟨_, rfl⟩
  have hst : Calls Try.prog 74 #[.agg #[.slice As p.steps.length cs, .int .i64 p.hold, .int .i64 p.calm, .int .i64 p.notice, .int .i64 p.grace], .slice A days.length c]
      (w.alloc (.cells #[.slice As p.steps.length cs, .int .i64 p.hold, .int .i64 p.calm, .int .i64 p.notice, .int .i64 p.grace] 25))
      fun e w1 => ∃ pp, e = .returned (.tuple #[.agg #[.pointer pp], .int .i64 er]) ∧ Below w.heap.size w w1 ∧ (er = 0 → ∃ pb, pp = some ⟨pb, 0, none⟩ ∧ PolAt w1 pb p) := by
    refine (start_any As cs p A c days _ ⟨hp.1, hp.2.1, hp.2.2.below ((Below.refl _ _).alloc (Nat.le_refl _) _)⟩ (hr.below ((Below.refl _ _).alloc (Nat.le_refl _) _)) hm).mono ?_
    rintro e w1 ⟨pp, rfl, hB, h0, _⟩
    exact ⟨pp, by rw [her], ((Below.refl _ _).alloc (Nat.le_refl _) _).trans (hB.mono (by simp)), fun h => h0 (her.symm.trans h)⟩
  have HP := Lib.hid (And.intro her (And.intro hr hst))
  clear her hst
  by_cases h0 : er = 0
  · subst h0
    have hs0 : startS p days = 0 := HP.out.1.symm
    obtain ⟨hck, hl4, _⟩ := start_ok hs0
    obtain ⟨k1, k2, k3, k4, k5, k6, k7, k8, k9, k10⟩ := check_ok hck
    have hne : ((0 : Int) != 0) = false := rfl
    have HK := Lib.hid (And.intro hs0 (And.intro k1 (And.intro k3 (And.intro k4 (And.intro k5 (And.intro k6 (And.intro k7 k8)))))))
    clear hs0 hck k1 k2 k3 k4 k5 k6 k7 k8 k9 k10 hr
    go_enter Try.func21, Try.ntmps21
    go_wp2_with fail
    refine HP.out.2.2.mono ?_
    rintro e w1 ⟨pp, rfl, hB, h0⟩
    obtain ⟨pb, rfl, hpol⟩ := h0 trivial
    have HB := Lib.hid (And.intro hB hpol)
    clear hB hpol h0
    go_wp2_with fail
    refine (force_any pb p A c days _ (HB.out.2.below ((Below.refl _ _).alloc (Nat.le_refl _) _)) ⟨HK.out.2.2.1, by have := HK.out.2.2.2.1; omega⟩ ⟨HK.out.2.2.2.2.1, by have := HK.out.2.2.2.2.2.1; omega⟩ ⟨HK.out.2.2.2.2.2.2.1, by have := HK.out.2.2.2.2.2.2.2; omega⟩ ((HP.out.2.1.below HB.out.1).below ((Below.refl _ _).alloc (Nat.le_refl _) _)) (by omega)).mono ?_
    rintro e w2 ⟨A2, c2, rfl, i2, b2⟩
    go_wp2_with fail
    go_ret2
    refine ⟨A2, c2, ?_, ?_, ?_⟩
    · rw [if_pos HK.out.1, HK.out.1, forceS_length]; rfl
    · rw [if_pos HK.out.1]; exact i2
    · exact HB.out.1.trans (((Below.refl _ _).alloc (Nat.le_refl _) _).trans (b2.mono (by simp)) |>.mono HB.out.1.size)
  · have hne : (er != 0) = true := by simp [h0]
    have hs0 : startS p days ≠ 0 := fun h => h0 (HP.out.1.trans h)
    have HK := Lib.hid hs0
    clear hs0 h0 hr
    go_enter Try.func21, Try.ntmps21
    go_wp2_with fail
    refine HP.out.2.2.mono ?_
    rintro e w1 ⟨pp, rfl, hB, _⟩
    have HB := Lib.hid hB
    clear hB
    go_wp2_with fail
    go_ret2
    refine ⟨none, 0, ?_, ?_, HB.out.alloc HB.out.size _⟩
    · rw [if_neg HK.out, ← HP.out.1]; rfl
    · rw [if_neg HK.out]; exact ⟨Rd.nil _ _ _, Nat.le_refl _, by omega⟩

end Go.Proofs.Ytfmhlnfcbbpfeaa
