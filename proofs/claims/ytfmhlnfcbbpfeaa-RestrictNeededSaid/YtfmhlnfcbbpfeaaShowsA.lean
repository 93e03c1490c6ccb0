/- restrict.Shows -/
import Derived.Test.YtfmhlnfcbbpfeaaWitness
namespace Go.Proofs.Ytfmhlnfcbbpfeaa
open Go Go.RowKit Sp
set_option linter.unusedVariables false

/-- the error of Shows -/
def shE (p : Pol) (days : List Int) (day step : Int) : Int := if startS p days ≠ 0 then startS p days else if !within day 0 ((days.length : Int) - 1) then 6 else if !within step 0 ((p.steps.length : Int) - 1) then 1 else 0
def shB (p : Pol) (days : List Int) (day step lo hi : Int) : Bool := if shE p days day step = 0 then showsS p days (keptS p days) day step lo hi else false
theorem sh_start {p : Pol} {days : List Int} {day step : Int} (h : startS p days ≠ 0) : shE p days day step = startS p days := by unfold shE; rw [if_pos h]
theorem sh_day {p : Pol} {days : List Int} {day step : Int} (h : startS p days = 0) (h1 : within day 0 ((days.length : Int) - 1) = false) : shE p days day step = 6 := by unfold shE; rw [if_neg (fun f => f h), h1]; rfl
theorem sh_step {p : Pol} {days : List Int} {day step : Int} (h : startS p days = 0) (h1 : within day 0 ((days.length : Int) - 1) = true) (h2 : within step 0 ((p.steps.length : Int) - 1) = false) : shE p days day step = 1 := by unfold shE; rw [if_neg (fun f => f h), h1, h2]; rfl
theorem sh_ok {p : Pol} {days : List Int} {day step : Int} (h : startS p days = 0) (h1 : within day 0 ((days.length : Int) - 1) = true) (h2 : within step 0 ((p.steps.length : Int) - 1) = true) : shE p days day step = 0 := by unfold shE; rw [if_neg (fun f => f h), h1, h2]; rfl
def ShowsPost (w : World) (p : Pol) (days : List Int) (day step lo hi : Int) (e : Ending) (w' : World) : Prop :=
  e = .returned (.tuple #[.bool (shB p days day step lo hi), .int .i64 (shE p days day step)]) ∧ Below w.heap.size w w'

set_option maxRecDepth 100000 in
set_option maxHeartbeats 4000000 in
theorem Shows_any (As : Option Addr) (cs : Nat) (p : Pol) (A : Option Addr) (c : Nat) (days : List Int) (day step lo hi : Int) (w : World) (hp : PolV w As cs p) (hr : Rd w 1 A days.length (ints days)) (hcc : days.length ≤ c ∧ c ≤ 9223372036854775807) (hhi : -4000000000000000000 ≤ hi) :
    Calls Try.prog 20 #[.agg #[.slice As p.steps.length cs, .int .i64 p.hold, .int .i64 p.calm, .int .i64 p.notice, .int .i64 p.grace], .slice A days.length c, .int .i64 day, .int .i64 step, .agg #[.int .i64 lo, .int .i64 hi]] w (ShowsPost w p days day step lo hi) := by
  have hm : days.length ≤ 9223372036854775807 := by omega
  obtain ⟨er, her⟩ : ∃ er, er = startS p days := ⟨_, rfl⟩
  have b0 : ∀ o o', Below w.heap.size w ((w.alloc o).alloc o') := fun o o' => ((Below.refl _ _).alloc (Nat.le_refl _) _).alloc (by simp) _
  have hst : Calls Try.prog 74 #[.agg #[.slice As p.steps.length cs, .int .i64 p.hold, .int .i64 p.calm, .int .i64 p.notice, .int .i64 p.grace], .slice A days.length c]
      ((w.alloc (.cells #[.slice As p.steps.length cs, .int .i64 p.hold, .int .i64 p.calm, .int .i64 p.notice, .int .i64 p.grace] 25)).alloc (.cells #[.int .i64 lo, .int .i64 hi] 42))
      fun e w1 => ∃ pp, e = .returned (.tuple #[.agg #[.pointer pp], .int .i64 er]) ∧ (Below w.heap.size w w1 ∧ w.heap.size + 2 ≤ w1.heap.size) ∧ (er = 0 → ∃ pb, pp = some ⟨pb, 0, none⟩ ∧ PolAt w1 pb p) ∧
        (w1.cell? ⟨w.heap.size, 0, none⟩ = some (.slice As p.steps.length cs) ∧ w1.cell? ⟨w.heap.size + 1, 0, none⟩ = some (.int .i64 lo) ∧ w1.cell? ⟨w.heap.size + 1, 1, none⟩ = some (.int .i64 hi)) := by
    refine (start_any As cs p A c days _ ⟨hp.1, hp.2.1, hp.2.2.below (b0 _ _)⟩ (hr.below (b0 _ _)) hm).mono ?_
    rintro e w1 ⟨pp, rfl, hB, h0, _⟩
    have fv : ∀ j, w1.cell? ⟨w.heap.size + 1, j, none⟩ = (#[Value.int .i64 lo, .int .i64 hi] : Array Value)[j]? := by
      intro j
      rw [hB.cell (p := ⟨w.heap.size + 1, j, none⟩) (by simp)]
      have := World.cell?_alloc_new (w.alloc (.cells #[.slice As p.steps.length cs, .int .i64 p.hold, .int .i64 p.calm, .int .i64 p.notice, .int .i64 p.grace] 25)) #[Value.int .i64 lo, .int .i64 hi] 42 j
      rw [World.size_alloc] at this
      exact this
    have fp : w1.cell? ⟨w.heap.size, 0, none⟩ = some (.slice As p.steps.length cs) := by
      rw [hB.cell (p := ⟨w.heap.size, 0, none⟩) (by simp; omega), World.cell?_alloc_lt _ _ _ (by simp), World.cell?_alloc_new]; rfl
    exact ⟨pp, by rw [her], ⟨(b0 _ _).trans (hB.mono (by simp; omega)), by have := hB.size; simp at this; omega⟩, fun h => h0 (her.symm.trans h), fp, (fv 0).trans rfl, (fv 1).trans rfl⟩
  have HP := Lib.hid (And.intro her (And.intro hr hst))
  have hpl := hp.1
  have hpm := hp.2.1
  unfold maxLen at hpm
  clear her hst b0 hr hp
  by_cases h0 : er = 0
  · subst h0
    have hs0 : startS p days = 0 := HP.out.1.symm
    obtain ⟨hck, hl4, _⟩ := start_ok hs0
    have HC := Lib.hid (check_ok hck)
    have hne : ((0 : Int) != 0) = false := rfl
    have HK := Lib.hid hs0
    clear hs0 hck
    obtain ⟨dr, hdr⟩ : ∃ dr, dr = within day 0 ((days.length : Int) - 1) := ⟨_, rfl⟩
    obtain ⟨sr, hsr⟩ : ∃ sr, sr = within step 0 ((p.steps.length : Int) - 1) := ⟨_, rfl⟩
    have hin : ∀ wx, Calls Try.prog 76 #[.int .i64 day, .int .i64 0, .int .i64 ((days.length : Int) - 1)] wx fun e w' => e = .returned (.bool dr) ∧ wx = w' := fun wx => by rw [hdr]; exact within_any day 0 _ wx
    have hin2 : ∀ wx, Calls Try.prog 76 #[.int .i64 step, .int .i64 0, .int .i64 ((p.steps.length : Int) - 1)] wx fun e w' => e = .returned (.bool sr) ∧ wx = w' := fun wx => by rw [hsr]; exact within_any step 0 _ wx
    have HD := Lib.hid (And.intro hdr (And.intro hsr (And.intro hin hin2)))
    clear hdr hin hsr hin2
    cases dr
    · go_enter Try.func20, Try.ntmps20
      go_wp2_with fail
      refine HP.out.2.2.mono ?_
      rintro e w1 ⟨pp, rfl, hB, _, f0, f1, f2⟩
      have HB := Lib.hid hB
      clear hB
      go_wp2_with fail
      refine (HD.out.2.2.1 _).mono ?_
      rintro e w2 ⟨rfl, rfl⟩
      go_wp2_with fail
      go_ret2
      have he : shE p days day step = 6 := sh_day HK.out HD.out.1.symm
      refine ⟨by rw [shB, he]; rfl, HB.out.1.alloc (by have := HB.out.2; omega) _⟩
    · cases sr
      · go_enter Try.func20, Try.ntmps20
        go_wp2_with fail
        refine HP.out.2.2.mono ?_
        rintro e w1 ⟨pp, rfl, hB, _, f0, f1, f2⟩
        have HB := Lib.hid hB
        have zz : w.heap.size < w1.heap.size := by have := hB.2; omega
        clear hB
        go_wp2_with fail
        refine (HD.out.2.2.1 _).mono ?_
        rintro e w2 ⟨rfl, rfl⟩
        go_wp2_with fail
        refine (HD.out.2.2.2 _).mono ?_
        rintro e w2 ⟨rfl, rfl⟩
        go_wp2_with fail
        go_ret2
        have he : shE p days day step = 1 := sh_step HK.out HD.out.1.symm HD.out.2.1.symm
        refine ⟨by rw [shB, he]; rfl, HB.out.1.alloc (by have := HB.out.2; omega) _⟩
      · have hlt : 0 ≤ day ∧ day < days.length := by have := HD.out.1; simp [within] at this; omega
        have hlt2 : 0 ≤ step ∧ step < p.steps.length := by have := HD.out.2.1; simp [within] at this; omega
        obtain ⟨d, rfl⟩ : ∃ k : Nat, day = k := ⟨day.toNat, by omega⟩
        obtain ⟨j, rfl⟩ : ∃ k : Nat, step = k := ⟨step.toNat, by omega⟩
        have hdl : d < days.length := by omega
        have hjl : j < p.steps.length := by omega
        clear hlt hlt2
        go_enter Try.func20, Try.ntmps20
        go_wp2_with fail
        refine HP.out.2.2.mono ?_
        rintro e w1 ⟨pp, rfl, hB, h0, f0, f1, f2⟩
        obtain ⟨pb, rfl, hpol⟩ := h0 trivial
        have HB := Lib.hid (And.intro hB hpol)
        have zz : w.heap.size + 1 < w1.heap.size := by have := hB.2; omega
        have zz0 : w.heap.size < w1.heap.size := by omega
        clear hB hpol h0
        go_wp2_with fail
        refine (HD.out.2.2.1 _).mono ?_
        rintro e w2 ⟨rfl, rfl⟩
        go_wp2_with fail
        refine (HD.out.2.2.2 _).mono ?_
        rintro e w2 ⟨rfl, rfl⟩
        go_wp2_with fail
        obtain ⟨W, hW⟩ : ∃ W, W = w1.alloc (.cells #[.pointer (some ⟨pb, 0, none⟩)] 143) := ⟨_, rfl⟩
        have e8 : W.cell? ⟨w1.heap.size, 0, none⟩ = some (.pointer (some ⟨pb, 0, none⟩)) := by rw [hW]; exact cell_new_one _ _ _
        have b1W : Below w1.heap.size w1 W := by rw [hW]; exact (Below.refl _ _).alloc (Nat.le_refl _) _
        have bW : Below w.heap.size w W := HB.out.1.1.trans (b1W.mono HB.out.1.1.size)
        have pW : PolAt W pb p := HB.out.2.below b1W
        have zW : w1.heap.size < W.heap.size := by rw [hW]; simp
        have g1 := (b1W.cell (p := ⟨w.heap.size + 1, 0, none⟩) zz).trans f1
        have g2 := (b1W.cell (p := ⟨w.heap.size + 1, 1, none⟩) zz).trans f2
        rw [← hW]
        generalize hs1 : w1.heap.size = s1 at e8 zW zz zz0 ⊢
        generalize hs2 : w.heap.size + 1 = s2 at g1 g2 zz ⊢
        have z2 : s2 < W.heap.size := by omega
        have HW := Lib.hid (And.intro bW (And.intro pW (HP.out.2.1.below bW)))
        clear hW b1W bW pW HB f0 f1 f2 zz zz0 hs1 hs2
        go_region_held3 (fun w' => w'.cell? ⟨s1, 0, none⟩ = some (.pointer (some ⟨pb, 0, none⟩)) ∧ w'.cell? ⟨s2, 0, none⟩ = some (.int .i64 lo) ∧ w'.cell? ⟨s2, 1, none⟩ = some (.int .i64 hi)) (first | exact ⟨e8, g1, g2⟩ | exact ⟨e82, g12, g22⟩ | exact ⟨e83, g13, g23⟩)
          (first
            | (go_at_call 84
               refine (kept_any pb p A c days W.drew (HW.out.2.1.below (Below.refl _ _).drew) ⟨HC.out.2.2.2.2.1, by have := HC.out.2.2.2.2.2.1; omega⟩ (HW.out.2.2.below (Below.refl _ _).drew) (by omega)).mono ?_
               rintro e w2 ⟨A2, c2, q2, rfl, o2, n2, b2⟩
               have e82 := (b2.cell (p := ⟨s1, 0, none⟩) zW).trans e8
               have g12 := (b2.cell (p := ⟨s2, 0, none⟩) z2).trans g1
               have g22 := (b2.cell (p := ⟨s2, 1, none⟩) z2).trans g2
               have z22 : s2 < w2.heap.size := Nat.lt_of_lt_of_le z2 b2.size
               have z12 : s1 < w2.heap.size := Nat.lt_of_lt_of_le zW b2.size
               have B2 := Lib.hid (And.intro o2 b2)
               clear o2 n2 b2)
            | (go_at_call 85
               refine (shows_any pb p A c days A2 c2 (keptS p days) d j lo hi w2 (HW.out.2.1.below ((Below.refl _ _).drew.trans B2.out.2)) ⟨HC.out.2.2.1, by have := HC.out.2.2.2.1; omega⟩ (HW.out.2.2.below ((Below.refl _ _).drew.trans B2.out.2)) hcc B2.out.1.rd ⟨B2.out.1.ge, B2.out.1.cap⟩ (by omega) hdl hjl hhi).mono ?_
               rintro e w3 ⟨rfl, b3⟩
               have e83 := (b3.cell (p := ⟨s1, 0, none⟩) z12).trans e82
               have g13 := (b3.cell (p := ⟨s2, 0, none⟩) z22).trans g12
               have g23 := (b3.cell (p := ⟨s2, 1, none⟩) z22).trans g22
               have B3 := Lib.hid b3
               clear b3))
        go_wp2_with fail
        go_ret2
        have he : shE p days d j = 0 := sh_ok HK.out HD.out.1.symm HD.out.2.1.symm
        refine ⟨by rw [shB, he]; rfl, ?_⟩
        have b4 : Below W.heap.size W w3 := (Below.refl _ _).drew.trans (B2.out.2.trans (B3.out.mono B2.out.2.size))
        exact HW.out.1.trans (b4.mono HW.out.1.size)
  · have hne : (er != 0) = true := by simp [h0]
    have hs0 : startS p days ≠ 0 := fun h => h0 (HP.out.1.trans h)
    have HK := Lib.hid (And.intro hs0 h0)
    clear hs0 h0
    go_enter Try.func20, Try.ntmps20
    go_wp2_with fail
    refine HP.out.2.2.mono ?_
    rintro e w1 ⟨pp, rfl, hB, _⟩
    have HB := Lib.hid hB
    clear hB
    go_wp2_with fail
    go_ret2
    have he : shE p days day step = er := (sh_start HK.out.1).trans HP.out.1.symm
    refine ⟨by rw [shB, he, if_neg HK.out.2]; rfl, HB.out.1.alloc (by have := HB.out.2; omega) _⟩
end Go.Proofs.Ytfmhlnfcbbpfeaa
