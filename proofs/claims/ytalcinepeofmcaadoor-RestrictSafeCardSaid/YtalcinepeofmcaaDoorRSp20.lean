/- restrict.Witness, restrict.Shows -/
import Derived.Test.YtalcinepeofmcaaDoorRSp19
import Derived.Test.YtalcinepeofmcaaDoorRSp0
import Derived.Test.YtalcinepeofmcaaDoorRSp4
import Derived.Test.YtalcinepeofmcaaDoorRSp18
import Derived.Test.YtalcinepeofmcaaDoorRSp17
set_option linter.unusedVariables false
set_option linter.unusedSimpArgs false
namespace Go.Proofs.YtalcinepeofmcaaDoor
open Go Go.RowKit Sp

/-- the last days that show the step -/
def wit (p : Pol) (days kp : List Int) (day step : Int) : Nat → Option (Int × Int)
  | 0 => none
  | n + 1 => if showsS p days kp day step ((n : Int) - p.hold + 1) n then some ((n : Int) - p.hold + 1, (n : Int)) else wit p days kp day step n

def witR (p : Pol) (days : List Int) (day : Int) : Int × (Int × Int) :=
  if startS p days ≠ 0 then (startS p days, 0, 0)
  else if !within day 0 ((days.length : Int) - 1) then (6, 0, 0)
  else if (decidedS p days).getD day.toNat 0 = 0 then ((4 : Int), (0 : Int), (0 : Int))
  else match wit p days (keptS p days) day ((decidedS p days).getD day.toNat 0) (day.toNat + 1) with
    | some s => (0, s)
    | none => (4, 0, 0)
theorem wit_start {p : Pol} {days : List Int} {day : Int} (h : startS p days ≠ 0) : witR p days day = (startS p days, 0, 0) := by unfold witR; rw [if_pos h]
theorem wit_day {p : Pol} {days : List Int} {day : Int} (h : startS p days = 0) (h1 : within day 0 ((days.length : Int) - 1) = false) : witR p days day = (6, 0, 0) := by unfold witR; rw [if_neg (fun f => f h), h1]; rfl
theorem wit_go {p : Pol} {days : List Int} {day : Int} (h : startS p days = 0) (h1 : within day 0 ((days.length : Int) - 1) = true) : witR p days day = if (decidedS p days).getD day.toNat 0 = 0 then ((4 : Int), (0 : Int), (0 : Int))
  else match wit p days (keptS p days) day ((decidedS p days).getD day.toNat 0) (day.toNat + 1) with
    | some s => (0, s)
    | none => (4, 0, 0) := by unfold witR; rw [if_neg (fun f => f h), h1]; rfl

def WitPost (w : World) (p : Pol) (days : List Int) (day : Int) (e : Ending) (w' : World) : Prop :=
  e = .returned (.tuple #[.agg #[.int .i64 (witR p days day).2.1, .int .i64 (witR p days day).2.2], .int .i64 (witR p days day).1]) ∧ Below w.heap.size w w'

structure WitS where
  g : Nat
  o : Nat
  c1 : Nat
  A2 : Option Addr
  c2 : Nat
  q2 : List Nat
set_option linter.unusedVariables false
def WtV (W0 : World) (pb : Nat) (A : Option Addr) (n c d j : Nat) (kp : List Int) (s : WitS) : Nat → Value → Prop
  | 0, v => v = .agg #[.pointer (some ⟨pb, 0, none⟩)]
  | 1, v => v = .slice A n c
  | 2, v => v = .slice (some ⟨s.g, s.o, none⟩) n s.c1
  | 3, v => v = .int .i64 d
  | 4, v => v = .pointer (some ⟨s.g, s.o + d, none⟩)
  | 5, v => v = .int .i64 j
  | 6, v => v = .agg #[.pointer (some ⟨pb, 0, none⟩)]
  | 7, v => v = .slice A n c
  | 8, v => v = .slice s.A2 n s.c2
  | 9, v => v = .int .i64 j
  | 10, v => v = .slice s.A2 n s.c2
  | _, _ => True
def WtW (W0 : World) (pb : Nat) (A : Option Addr) (n c d j : Nat) (kp : List Int) (s : WitS) (l : Nat → Bool) (w : World) : Prop := Below W0.heap.size W0 w ∧ (l 2 = true → w.cell? ⟨s.g, s.o + d, none⟩ = some (.int .i64 j)) ∧ (l 8 = true → OwnA w 3 s.A2 n s.c2 (ints kp) s.q2)

set_option maxRecDepth 100000 in
set_option maxHeartbeats 4000000 in
theorem Witness_any (As : Option Addr) (cs : Nat) (p : Pol) (A : Option Addr) (c : Nat) (days : List Int) (day : Int) (w : World) (hp : PolV w As cs p) (hr : Rd w 1 A days.length (ints days)) (hcc : days.length ≤ c ∧ c ≤ 9223372036854775807) :
    Calls Tryd.prog 33 #[.agg #[.slice As p.steps.length cs, .int .i64 p.hold, .int .i64 p.calm, .int .i64 p.notice, .int .i64 p.grace], .slice A days.length c, .int .i64 day] w (WitPost w p days day) := by
  have hm : days.length ≤ 9223372036854775807 := by omega
  obtain ⟨er, her⟩ : ∃ er, er = startS p days := ⟨_, rfl⟩
  have b0 : ∀ o o', Below w.heap.size w ((w.alloc o).alloc o') := fun o o' => ((Below.refl _ _).alloc (Nat.le_refl _) _).alloc (by simp) _
  have hst : Calls Tryd.prog 56 #[.agg #[.slice As p.steps.length cs, .int .i64 p.hold, .int .i64 p.calm, .int .i64 p.notice, .int .i64 p.grace], .slice A days.length c]
      ((w.alloc (.cells #[.slice As p.steps.length cs, .int .i64 p.hold, .int .i64 p.calm, .int .i64 p.notice, .int .i64 p.grace] 51)).alloc (.cells #[.int .i64 0, .int .i64 0] 28))
      fun e w1 => ∃ pp, e = .returned (.tuple #[.agg #[.pointer pp], .int .i64 er]) ∧ Below w.heap.size w w1 ∧ (er = 0 → ∃ pb, pp = some ⟨pb, 0, none⟩ ∧ PolAt w1 pb p) ∧
        w1.cell? ⟨w.heap.size + 1, 0, none⟩ = some (.int .i64 0) ∧ w1.cell? ⟨w.heap.size + 1, 1, none⟩ = some (.int .i64 0) ∧ w1.frozen? ⟨w.heap.size + 1, 0, none⟩ = false ∧ w1.frozen? ⟨w.heap.size + 1, 1, none⟩ = false ∧ w.heap.size + 1 < w1.heap.size ∧ w1.heap[w.heap.size + 1]? = some (.cells #[.int .i64 0, .int .i64 0] 28) := by
    refine (start8_any As cs p A c days _ ⟨hp.1, hp.2.1, hp.2.2.below (b0 _ _)⟩ (hr.below (b0 _ _)) hm).mono ?_
    rintro e w1 ⟨pp, rfl, hB, h0, _⟩
    have hh : w1.heap[w.heap.size + 1]? = some (.cells #[.int .i64 0, .int .i64 0] 28) := by
      rw [hB.block _ (by simp)]
      have := heap_alloc_new (w.alloc (.cells #[.slice As p.steps.length cs, .int .i64 p.hold, .int .i64 p.calm, .int .i64 p.notice, .int .i64 p.grace] 51)) (.cells #[.int .i64 0, .int .i64 0] 28)
      rw [World.size_alloc] at this
      exact this
    exact ⟨pp, by rw [her], (b0 _ _).trans (hB.mono (by simp; omega)), fun h => h0 (her.symm.trans h), (cell_of_heap hh 0).trans rfl, (cell_of_heap hh 1).trans rfl, frozen_of_heap hh 0, frozen_of_heap hh 1, by have := hB.size; simp at this; omega, hh⟩
  have HP := Lib.hid (And.intro her (And.intro hr hst))
  clear her hst b0 hr hp
  by_cases h0 : er = 0
  · subst h0
    have hs0 : startS p days = 0 := HP.out.1.symm
    obtain ⟨hck, hl4, _⟩ := start_ok hs0
    have HC := Lib.hid (check_ok hck)
    have hne : ((0 : Int) != 0) = false := rfl
    have HK := Lib.hid hs0
    clear hs0 hck
    obtain ⟨dr, hdr⟩ : ∃ dr, dr = within day 0 ((days.length : Int) - 1) := ⟨_, rfl⟩
    have hin : ∀ wx, Calls Tryd.prog 22 #[.int .i64 day, .int .i64 0, .int .i64 ((days.length : Int) - 1)] wx fun e w' => e = .returned (.bool dr) ∧ wx = w' := fun wx => by rw [hdr]; exact within_any day 0 _ wx
    have HD := Lib.hid (And.intro hdr hin)
    clear hdr hin
    cases dr
    · go_enter Tryd.func33, Tryd.ntmps33
      go_wp2_with fail
      refine HP.out.2.2.mono ?_
      rintro e w1 ⟨pp, rfl, hB, _, f1, f2, f3, f4, z1, hh⟩
      have HB := Lib.hid hB
      clear hB
      go_wp2_with (go_at_call 22; refine (HD.out.2 _).mono ?_; rintro e w2 ⟨rfl, rfl⟩)
      have k0 := fun o => cell_of_heap (heap_alloc' (span_cells hh (.int .i64 0) (.int .i64 0)) o) 0
      have k1 := fun o => cell_of_heap (heap_alloc' (span_cells hh (.int .i64 0) (.int .i64 0)) o) 1
      refine bodyPost_ret (v := .tuple #[.agg #[.int .i64 0, .int .i64 0], .int .i64 6]) (by simp [results, Tryd.results33, go_sem, k0, k1]) rfl ?_
      refine ⟨by rw [wit_day HK.out HD.out.1.symm], ?_⟩
      exact ((HB.out.setCell (by simp) _).setCell (by simp) _).alloc (by simpa using HB.out.size) _
    · have hlt : 0 ≤ day ∧ day < days.length := by have := HD.out.1; simp [within] at this; omega
      obtain ⟨d, rfl⟩ : ∃ k : Nat, day = k := ⟨day.toNat, by omega⟩
      have hdl : d < days.length := by omega
      have hdI : (0 : Int) ≤ (d : Int) ∧ (d : Int) < (days.length : Int) := hlt
      clear hlt
      go_enter Tryd.func33, Tryd.ntmps33
      go_wp2_with fail
      refine HP.out.2.2.mono ?_
      rintro e w1 ⟨pp, rfl, hB, h0, f1, f2, f3, f4, z1, hh⟩
      obtain ⟨pb, rfl, hpol⟩ := h0 trivial
      obtain ⟨W, hW⟩ : ∃ W, W = w1.alloc (.cells #[.pointer (some ⟨pb, 0, none⟩)] 101) := ⟨_, rfl⟩
      have e8 : W.cell? ⟨w1.heap.size, 0, none⟩ = some (.pointer (some ⟨pb, 0, none⟩)) := by rw [hW]; exact cell_new_one _ _ _
      have bW : Below w.heap.size w W := by rw [hW]; exact hB.alloc hB.size _
      have pW : PolAt W pb p := by rw [hW]; exact hpol.below ((Below.refl _ _).alloc (Nat.le_refl _) _)
      have zW : w1.heap.size < W.heap.size := by rw [hW]; simp
      have hhW : W.heap[w.heap.size + 1]? = some (.cells #[.int .i64 0, .int .i64 0] 28) := by rw [hW]; exact heap_alloc' hh _
      clear hB h0 f1 f2 f3 f4 hpol hh
      go_upto_region 6 with (go_at_call 22; refine (HD.out.2 _).mono ?_; rintro e w2 ⟨rfl, rfl⟩)
      rw [← hW]
      generalize hs1 : w1.heap.size = s1 at e8 zW ⊢
      have HW := Lib.hid (And.intro bW (And.intro pW (And.intro (HP.out.2.1.below bW) hhW)))
      have z1' : w.heap.size + 1 < s1 := by omega
      clear hW bW pW hhW HP hs1 z1
      obtain ⟨j, hj⟩ : ∃ j : Nat, (decidedS p days).getD d 0 = (j : Int) := ⟨((decidedS p days).getD d 0).toNat, by have := getD_all (decidedS_range HC.out.1 days) (isStep_zero HC.out.1) d; have := this.1; omega⟩
      have hjl : j < p.steps.length := by have := getD_all (decidedS_range HC.out.1 days) (isStep_zero HC.out.1) d; rw [hj] at this; have := this.2; omega
      have HJ := Lib.hid (And.intro hj hjl)
      clear hj hjl
      refine wp_region_steps (σ := WitS) (by kernel_rfl) (by kernel_rfl) (fun sg jx vx _ => WtV W pb A days.length c d j (keptS p days) sg jx vx) (fun sg ly wx => WtW W pb A days.length c d j (keptS p days) sg ly wx) ⟨0, 0, 0, none, 0, []⟩ ?_ ?_ ?_
      · exact ⟨(Below.refl _ _).drew, fun h => by simp at h, fun h => by simp at h⟩
      · simp only [AllFrom, Nat.zero_add, Nat.reduceAdd]
        refine ⟨?_, ?_, ?_, ?_, ?_, ?_, ?_, ?_, ?_, ?_, ?_, trivial⟩
        · refine step_pure fun sg ly a wr hl hd hW hF => ?_
          have et8 := hF.old 8 (by kernel_rfl)
          simp [Act.eval] at et8
          have c8 := (hW.1.cell (p := ⟨s1, 0, none⟩) zW).trans e8
          exact ⟨by simpa [WtW, upd] using hW, .agg #[.pointer (some ⟨pb, 0, none⟩)], by go_simp, rfl⟩
        · refine step_pure fun sg ly a wr hl hd hW hF => ?_
          have et1 := hF.old 1 (by kernel_rfl)
          simp [Act.eval] at et1
          exact ⟨by simpa [WtW, upd] using hW, .slice A days.length c, by go_simp, rfl⟩
        · refine step_call fun sg ly a wr hl hd hW hF => ?_
          simp [Region.binds] at hd
          have et33 := hF.new 0 33 (by simp [hd]) rfl
          simp [WtV, Act.eval] at et33
          have et34 := hF.new 1 34 (by simp [hd]) rfl
          simp [WtV, Act.eval] at et34
          have n4 := hF.notYet 2 4 hl (by kernel_rfl)
          refine ⟨57, #[.agg #[.pointer (some ⟨pb, 0, none⟩)], .slice A days.length c], by go_simp, ?_⟩
          refine (decided_any pb p A c days wr (HW.out.2.1.below hW.1) ⟨HC.out.2.2.1, by have := HC.out.2.2.2.1; omega⟩ ⟨HC.out.2.2.2.2.1, by have := HC.out.2.2.2.2.2.1; omega⟩ (HW.out.2.2.1.below hW.1) (by omega)).mono ?_
          rintro e w2 ⟨A1, c1, q1, rfl, o1, n1, b1⟩
          obtain ⟨g1, o1', rfl, _, _, hc1, _⟩ := o1.some_ (by omega)
          have c1d := hc1 d (.int .i64 j) (by rw [← HJ.out.1]; exact ints_get (by rw [decidedS_length]; exact hdl))
          refine ⟨_, { sg with g := g1, o := o1', c1 := c1 }, rfl, ⟨hW.1.trans (b1.mono hW.1.size), fun _ => c1d, fun h8 => (hW.2.2 (by simpa [upd] using h8)).keepS (Keep.of_below (S := []) b1) (by simp)⟩, rfl, ?_⟩
          intro i u hi h
          have i2 : i ≠ 2 := by rintro rfl; rw [hl] at hi; cases hi
          have i4 : i ≠ 4 := by rintro rfl; rw [n4] at hi; cases hi
          unfold WtV at h ⊢
          split at h <;> first | exact h | exact absurd rfl i2 | exact absurd rfl i4
        · refine step_pure fun sg ly a wr hl hd hW hF => ?_
          have et2 := hF.old 2 (by kernel_rfl)
          simp [Act.eval] at et2
          exact ⟨by simpa [WtW, upd] using hW, .int .i64 d, by go_simp, rfl⟩
        · refine step_pure fun sg ly a wr hl hd hW hF => ?_
          simp [Region.binds] at hd
          have et35 := hF.new 2 35 (by simp [hd]) rfl
          simp [WtV, Act.eval] at et35
          have et36 := hF.new 3 36 (by simp [hd]) rfl
          simp [WtV, Act.eval] at et36
          exact ⟨by simpa [WtW, upd] using hW, .pointer (some ⟨sg.g, sg.o + d, none⟩), by go_simp, rfl⟩
        · refine step_pure fun sg ly a wr hl hd hW hF => ?_
          simp [Region.binds] at hd
          have et37 := hF.new 4 37 (by simp [hd]) rfl
          simp [WtV, Act.eval] at et37
          have y2 := hF.before 2 4 (by simp [hd]) (by kernel_rfl)
          have c1d := hW.2.1 y2
          exact ⟨by simpa [WtW, upd] using hW, .int .i64 j, by go_simp, rfl⟩
        · refine step_pure fun sg ly a wr hl hd hW hF => ?_
          have et8 := hF.old 8 (by kernel_rfl)
          simp [Act.eval] at et8
          have c8 := (hW.1.cell (p := ⟨s1, 0, none⟩) zW).trans e8
          exact ⟨by simpa [WtW, upd] using hW, .agg #[.pointer (some ⟨pb, 0, none⟩)], by go_simp, rfl⟩
        · refine step_pure fun sg ly a wr hl hd hW hF => ?_
          have et1 := hF.old 1 (by kernel_rfl)
          simp [Act.eval] at et1
          exact ⟨by simpa [WtW, upd] using hW, .slice A days.length c, by go_simp, rfl⟩
        · refine step_call fun sg ly a wr hl hd hW hF => ?_
          simp [Region.binds] at hd
          have et39 := hF.new 6 39 (by simp [hd]) rfl
          simp [WtV, Act.eval] at et39
          have et40 := hF.new 7 40 (by simp [hd]) rfl
          simp [WtV, Act.eval] at et40
          have n10 := hF.notYet 8 10 hl (by kernel_rfl)
          refine ⟨61, #[.agg #[.pointer (some ⟨pb, 0, none⟩)], .slice A days.length c], by go_simp, ?_⟩
          refine (kept_any pb p A c days wr (HW.out.2.1.below hW.1) ⟨HC.out.2.2.2.2.1, by have := HC.out.2.2.2.2.2.1; omega⟩ (HW.out.2.2.1.below hW.1) (by omega)).mono ?_
          rintro e w3 ⟨A2, c2, q2, rfl, o2, n2, b2⟩
          refine ⟨_, { sg with A2 := A2, c2 := c2, q2 := q2 }, rfl, ⟨hW.1.trans (b2.mono hW.1.size), fun h2 => (b2.cell (World.block_lt_of_cell? _ _ (hW.2.1 (by simpa [upd] using h2)))).trans (hW.2.1 (by simpa [upd] using h2)), fun _ => o2⟩, rfl, ?_⟩
          intro i u hi h
          have i8 : i ≠ 8 := by rintro rfl; rw [hl] at hi; cases hi
          have i10 : i ≠ 10 := by rintro rfl; rw [n10] at hi; cases hi
          unfold WtV at h ⊢
          split at h <;> first | exact h | exact absurd rfl i8 | exact absurd rfl i10
        · refine step_pure fun sg ly a wr hl hd hW hF => ?_
          simp [Region.binds] at hd
          have et38 := hF.new 5 38 (by simp [hd]) rfl
          simp [WtV, Act.eval] at et38
          exact ⟨by simpa [WtW, upd] using hW, .int .i64 j, by go_simp, rfl⟩
        · refine step_pure fun sg ly a wr hl hd hW hF => ?_
          simp [Region.binds] at hd
          have et41 := hF.new 8 41 (by simp [hd]) rfl
          simp [WtV, Act.eval] at et41
          exact ⟨by simpa [WtW, upd] using hW, .slice sg.A2 days.length sg.c2, by go_simp, rfl⟩
      intro sg a w3 hW hF
      have v10 := hF.new 9 10 rfl rfl
      have v11 := hF.new 10 11 rfl rfl
      simp only [WtV] at v10 v11
      obtain ⟨f, hf, rfl⟩ := hF.lit
      have f10 := (hf 10).trans v10
      have f11 := (hf 11).trans v11
      obtain ⟨b3, _, hown⟩ := hW
      have o2 := hown rfl
      obtain ⟨A2, hA2⟩ : ∃ A2, A2 = sg.A2 := ⟨_, rfl⟩
      obtain ⟨c2, hc2⟩ : ∃ c2, c2 = sg.c2 := ⟨_, rfl⟩
      rw [← hA2, ← hc2] at o2 f11
      have e83 : w3.cell? ⟨s1, 0, none⟩ = some (.pointer (some ⟨pb, 0, none⟩)) := (b3.cell (p := ⟨s1, 0, none⟩) zW).trans e8
      simp only [List.filterMap, List.foldl, List.setIfInBounds_toArray, List.set_cons_succ, List.set_cons_zero]
      rw [f10, f11]
      have B2 := Lib.hid o2
      clear hf hF v10 v11 f10 f11 hA2 hc2 o2 hown
      all_goals
        have hh3 : w3.heap[w.heap.size + 1]? = some (.cells #[.int .i64 0, .int .i64 0] 28) := (b3.block _ (by omega)).trans HW.out.2.2.2
        have p3 : PolAt w3 pb p := HW.out.2.1.below b3
        have r3 : Rd w3 1 A days.length (ints days) := HW.out.2.2.1.below b3
        have bw3 : Below w.heap.size w w3 := HW.out.1.trans (b3.mono HW.out.1.size)
        have z3 : s1 < w3.heap.size := Nat.lt_of_lt_of_le zW b3.size
        have H3 := Lib.hid (And.intro hh3 (And.intro p3 (And.intro r3 (And.intro bw3 B2.out))))
        clear b3 p3 r3 bw3 B2 e8 HW zW
        by_cases hj0 : j = 0
        · subst hj0
          have f3 := frozen_of_heap hh3 0
          have f4 := frozen_of_heap hh3 1
          have f1 : w3.cell? ⟨w.heap.size + 1, 0, none⟩ = some (.int .i64 0) := (cell_of_heap hh3 0).trans rfl
          have f2 : w3.cell? ⟨w.heap.size + 1, 1, none⟩ = some (.int .i64 0) := (cell_of_heap hh3 1).trans rfl
          clear hh3
          go_wp2_with fail
          have k0 := cell_of_heap (span_cells H3.out.1 (.int .i64 0) (.int .i64 0)) 0
          have k1 := cell_of_heap (span_cells H3.out.1 (.int .i64 0) (.int .i64 0)) 1
          refine bodyPost_ret (v := .tuple #[.agg #[.int .i64 0, .int .i64 0], .int .i64 4]) (by simp [results, Tryd.results33, go_sem, k0, k1]) rfl ?_
          refine ⟨by rw [wit_go HK.out HD.out.1.symm, Int.toNat_natCast, HJ.out.1]; rfl, ?_⟩
          exact (H3.out.2.2.2.1.setCell (by simp) _).setCell (by simp) _
        · have hj1 : ((j : Int) == 0) = false := by simp; omega
          clear hh3
          obtain ⟨h, hh1⟩ : ∃ h, h = p.hold := ⟨_, rfl⟩
          have hhb : 1 ≤ h ∧ h ≤ 30 := by rw [hh1]; exact ⟨HC.out.2.2.1, HC.out.2.2.2.1⟩
          have g1' : w3.cell? ⟨pb, 1, none⟩ = some (.int .i64 h) := by obtain ⟨Ap, cp, hh, _⟩ := H3.out.2.1; rw [cell_of_heap hh, hh1]; rfl
          have zp : pb < w3.heap.size := by obtain ⟨Ap, cp, hh, _⟩ := H3.out.2.1; exact heap_lt hh
          have HH := Lib.hid hh1
          clear hh1
          go_wp2_with fail
          go_loopg [12] (d + 1) (fun g l wr => ∃ v : Int, l = .int .i64 v ∧ v = (g : Int) - 1 ∧ g ≤ d + 1 ∧ wit p days (keptS p days) d j (d + 1) = wit p days (keptS p days) d j g ∧ Below w3.heap.size w3 wr)
          case atStart => exact ⟨d, rfl, by omega, by omega, rfl, Below.refl _ _⟩
          case round =>
            obtain ⟨v, rfl, hv, hgd, hwt, hB⟩ := hrel
            have hsz := hB.size
            have zz : w.heap.size + 1 < wr.heap.size := by omega
            have HB := Lib.hid (And.intro hwt hB)
            clear hwt hB
            cases gk with
            | zero =>
              obtain rfl : v = -1 := by omega
              clear hv hgd
              have hh4 : wr.heap[w.heap.size + 1]? = some (.cells #[.int .i64 0, .int .i64 0] 28) := (HB.out.2.block _ (by omega)).trans H3.out.1
              have f3 := frozen_of_heap hh4 0
              have f4 := frozen_of_heap hh4 1
              have f1 : wr.cell? ⟨w.heap.size + 1, 0, none⟩ = some (.int .i64 0) := (cell_of_heap hh4 0).trans rfl
              have f2 : wr.cell? ⟨w.heap.size + 1, 1, none⟩ = some (.int .i64 0) := (cell_of_heap hh4 1).trans rfl
              have k0 := cell_of_heap (span_cells hh4 (.int .i64 0) (.int .i64 0)) 0
              have k1 := cell_of_heap (span_cells hh4 (.int .i64 0) (.int .i64 0)) 1
              have HK0 := Lib.hid (And.intro k0 k1)
              clear hh4 k0 k1
              go_wp2_with fail
              have k0 := HK0.out.1
              have k1 := HK0.out.2
              refine bodyPost_ret (v := .tuple #[.agg #[.int .i64 0, .int .i64 0], .int .i64 4]) (by simp [results, Tryd.results33, go_sem, k0, k1]) rfl ?_
              refine ⟨by rw [wit_go HK.out HD.out.1.symm, Int.toNat_natCast, HJ.out.1, if_neg (by omega), HB.out.1]; rfl, ?_⟩
              exact ((H3.out.2.2.2.1.trans (HB.out.2.mono H3.out.2.2.2.1.size)).setCell (by simp) _).setCell (by simp) _
            | succ n =>
              obtain rfl : v = (n : Int) := by omega
              have c1 := (HB.out.2.cell (p := ⟨s1, 0, none⟩) z3).trans e83
              have c2' := (HB.out.2.cell (p := ⟨pb, 1, none⟩) zp).trans g1'
              clear hv
              have zs : s1 < wr.heap.size := by omega
              have hnd : (0 : Int) ≤ (n : Int) ∧ (n : Int) ≤ 400 := by omega
              obtain ⟨r, hr⟩ : ∃ r, r = showsS p days (keptS p days) d j ((n : Int) - h + 1) n := ⟨_, rfl⟩
              have hsh : Calls Tryd.prog 62 #[.agg #[.pointer (some ⟨pb, 0, none⟩)], .slice A days.length c, .slice A2 days.length c2, .int .i64 d, .int .i64 j, .agg #[.int .i64 ((n : Int) - h + 1), .int .i64 n]] (wr.alloc (.cells #[.int .i64 ((n : Int) - h + 1), .int .i64 n] 28))
                  fun e w' => e = .returned (.bool r) ∧ Below wr.heap.size wr w' ∧ w'.cell? ⟨wr.heap.size, 0, none⟩ = some (.int .i64 ((n : Int) - h + 1)) ∧ w'.cell? ⟨wr.heap.size, 1, none⟩ = some (.int .i64 n) ∧ w'.cell? ⟨w.heap.size + 1, 0, none⟩ = some (.int .i64 0) ∧ w'.cell? ⟨w.heap.size + 1, 1, none⟩ = some (.int .i64 0) ∧ w'.frozen? ⟨w.heap.size + 1, 0, none⟩ = false ∧ w'.frozen? ⟨w.heap.size + 1, 1, none⟩ = false ∧ w'.heap[w.heap.size + 1]? = some (.cells #[.int .i64 0, .int .i64 0] 28) := by
                have bk : Below w3.heap.size w3 (wr.alloc (.cells #[.int .i64 ((n : Int) - h + 1), .int .i64 n] 28)) := HB.out.2.alloc hsz _
                refine (shows_any pb p A c days A2 c2 (keptS p days) d j ((n : Int) - h + 1) n _ (H3.out.2.1.below bk) ⟨HC.out.2.2.1, by have := HC.out.2.2.2.1; omega⟩ (H3.out.2.2.1.below bk) hcc (H3.out.2.2.2.2.rd.below bk) ⟨H3.out.2.2.2.2.ge, H3.out.2.2.2.2.cap⟩ (by omega) hdl HJ.out.2 (by omega)).mono ?_
                rintro e w4 ⟨rfl, b4⟩
                have bb : Below wr.heap.size wr w4 := ((Below.refl _ _).alloc (Nat.le_refl _) _).trans (b4.mono (by simp))
                have hh4 : w4.heap[w.heap.size + 1]? = some (.cells #[.int .i64 0, .int .i64 0] 28) := (bb.block _ (by omega)).trans ((HB.out.2.block _ (by omega)).trans H3.out.1)
                refine ⟨by rw [hr], bb, ?_, ?_, (cell_of_heap hh4 0).trans rfl, (cell_of_heap hh4 1).trans rfl, frozen_of_heap hh4 0, frozen_of_heap hh4 1, hh4⟩
                · rw [b4.cell (p := ⟨wr.heap.size, 0, none⟩) (by simp), World.cell?_alloc_new]; rfl
                · rw [b4.cell (p := ⟨wr.heap.size, 1, none⟩) (by simp), World.cell?_alloc_new]; rfl
              have HS := Lib.hid (And.intro hr hsh)
              clear hr hsh
              cases r
              · go_wp2_with (go_at_call 62; refine HS.out.2.mono ?_; rintro e w4 ⟨rfl, b4, _⟩; have HB4 := Lib.hid b4; clear b4)
                go_roundg n
                case measure => omega
                case rel =>
                  refine ⟨(n : Int) - 1, by go_num, rfl, by omega, ?_, HB.out.2.trans (HB4.out.mono hsz)⟩
                  rw [HB.out.1, wit, ← HH.out, ← HS.out.1]; rfl
              · go_wp2_with (go_at_call 62; refine HS.out.2.mono ?_; rintro e w4 ⟨rfl, b4, m0, m1, f1, f2, f3, f4, hh4⟩; have HB4 := Lib.hid (And.intro b4 hh4); clear b4 hh4)
                have k0 := cell_of_heap (span_cells HB4.out.2 (.int .i64 ((n : Int) - h + 1)) (.int .i64 n)) 0
                have k1 := cell_of_heap (span_cells HB4.out.2 (.int .i64 ((n : Int) - h + 1)) (.int .i64 n)) 1
                refine bodyPost_ret (v := .tuple #[.agg #[.int .i64 ((n : Int) - h + 1), .int .i64 n], .int .i64 0]) (by simp [results, Tryd.results33, go_sem, k0, k1]) rfl ?_
                refine ⟨by rw [wit_go HK.out HD.out.1.symm, Int.toNat_natCast, HJ.out.1, if_neg (by omega), HB.out.1, wit, ← HH.out, ← HS.out.1]; rfl, ?_⟩
                exact ((H3.out.2.2.2.1.trans ((HB.out.2.trans (HB4.out.1.mono hsz)).mono H3.out.2.2.2.1.size)).setCell (by simp) _).setCell (by simp) _
  · have hne : (er != 0) = true := by simp [h0]
    have hs0 : startS p days ≠ 0 := fun h => h0 (HP.out.1.trans h)
    have HK := Lib.hid (And.intro hs0 h0)
    clear hs0 h0
    go_enter Tryd.func33, Tryd.ntmps33
    go_wp2_with fail
    refine HP.out.2.2.mono ?_
    rintro e w1 ⟨pp, rfl, hB, _, f1, f2, f3, f4, z1, hh⟩
    have HB := Lib.hid hB
    clear hB
    go_wp2_with fail
    have k0 := fun o => cell_of_heap (heap_alloc' (span_cells hh (.int .i64 0) (.int .i64 0)) o) 0
    have k1 := fun o => cell_of_heap (heap_alloc' (span_cells hh (.int .i64 0) (.int .i64 0)) o) 1
    refine bodyPost_ret (v := .tuple #[.agg #[.int .i64 0, .int .i64 0], .int .i64 er]) (by simp [results, Tryd.results33, go_sem, k0, k1]) rfl ?_
    refine ⟨by rw [wit_start HK.out.1, ← HP.out.1], ?_⟩
    exact ((HB.out.setCell (by simp) _).setCell (by simp) _).alloc (by simpa using HB.out.size) _
end Go.Proofs.YtalcinepeofmcaaDoor
/- restrict.Decided, restrict.Force -/
namespace Go.Proofs.YtalcinepeofmcaaDoor
open Go Go.RowKit Sp


/-- what Decided leaves -/
def DecidedPost (w : World) (p : Pol) (days : List Int) (e : Ending) (w' : World) : Prop :=
  ∃ A c, e = .returned (.tuple #[.slice A (if startS p days = 0 then decidedS p days else []).length c, .int .i64 (startS p days)]) ∧ IntsAt w' A c (if startS p days = 0 then decidedS p days else []) ∧ Below w.heap.size w w'

set_option maxRecDepth 100000 in
set_option maxHeartbeats 1000000 in
theorem Decided_any (As : Option Addr) (cs : Nat) (p : Pol) (A : Option Addr) (c : Nat) (days : List Int) (w : World) (hp : PolV w As cs p) (hr : Rd w 1 A days.length (ints days)) (hm : days.length ≤ 9223372036854775807) :
    Calls Tryd.prog 28 #[.agg #[.slice As p.steps.length cs, .int .i64 p.hold, .int .i64 p.calm, .int .i64 p.notice, .int .i64 p.grace], .slice A days.length c] w (DecidedPost w p days) := by
  obtain ⟨er, her⟩ : ∃ er, er = startS p days := ⟨_, rfl⟩
  have hst : Calls Tryd.prog 56 #[.agg #[.slice As p.steps.length cs, .int .i64 p.hold, .int .i64 p.calm, .int .i64 p.notice, .int .i64 p.grace], .slice A days.length c]
      (w.alloc (.cells #[.slice As p.steps.length cs, .int .i64 p.hold, .int .i64 p.calm, .int .i64 p.notice, .int .i64 p.grace] 51))
      fun e w1 => ∃ pp, e = .returned (.tuple #[.agg #[.pointer pp], .int .i64 er]) ∧ Below w.heap.size w w1 ∧ (er = 0 → ∃ pb, pp = some ⟨pb, 0, none⟩ ∧ PolAt w1 pb p) := by
    refine (start8_any As cs p A c days _ ⟨hp.1, hp.2.1, hp.2.2.below ((Below.refl _ _).alloc (Nat.le_refl _) _)⟩ (hr.below ((Below.refl _ _).alloc (Nat.le_refl _) _)) hm).mono ?_
    rintro e w1 ⟨pp, rfl, hB, h0, _⟩
    exact ⟨pp, by rw [her], ((Below.refl _ _).alloc (Nat.le_refl _) _).trans (hB.mono (by simp)), fun h => h0 (her.symm.trans h)⟩
  have HP := Lib.hid (And.intro her (And.intro hr hst))
  clear her hst
  by_cases h0 : er = 0
  · subst h0
    have hs0 : startS p days = 0 := HP.out.1.symm
    obtain ⟨hck, hl4, _⟩ := start_ok hs0
    obtain ⟨k1, k2, k3, k4, k5, k6, k7, k8, k9, k10⟩ := check_ok hck
    have hne : ((0 : Int) != 0) = false := rfl
    have HK := Lib.hid (And.intro hs0 (And.intro k1 (And.intro k3 (And.intro k4 (And.intro k5 (And.intro k6 (And.intro k7 k8)))))))
    clear hs0 hck k1 k2 k3 k4 k5 k6 k7 k8 k9 k10 hr
    go_enter Tryd.func28, Tryd.ntmps28
    go_wp2_with fail
    refine HP.out.2.2.mono ?_
    rintro e w1 ⟨pp, rfl, hB, h0⟩
    obtain ⟨pb, rfl, hpol⟩ := h0 trivial
    have HB := Lib.hid (And.intro hB hpol)
    clear hB hpol h0
    go_wp2_with fail
    refine (decided_any pb p A c days _ (HB.out.2.below ((Below.refl _ _).alloc (Nat.le_refl _) _)) ⟨HK.out.2.2.1, by have := HK.out.2.2.2.1; omega⟩ ⟨HK.out.2.2.2.2.1, by have := HK.out.2.2.2.2.2.1; omega⟩ ((HP.out.2.1.below HB.out.1).below ((Below.refl _ _).alloc (Nat.le_refl _) _)) (by omega)).mono ?_
    rintro e w2 ⟨A2, c2, q2, rfl, o2, n2, b2⟩
    go_wp2_with fail
    go_ret2
    refine ⟨A2, c2, ?_, ?_, ?_⟩
    · rw [if_pos HK.out.1, HK.out.1, decidedS_length]; rfl
    · rw [if_pos HK.out.1]; exact ⟨by rw [decidedS_length]; exact o2.rd, by rw [decidedS_length]; exact o2.ge, o2.cap⟩
    · exact HB.out.1.trans (((Below.refl _ _).alloc (Nat.le_refl _) _).trans (b2.mono (by simp)) |>.mono HB.out.1.size)
  · have hne : (er != 0) = true := by simp [h0]
    have hs0 : startS p days ≠ 0 := fun h => h0 (HP.out.1.trans h)
    have HK := Lib.hid hs0
    clear hs0 h0 hr
    go_enter Tryd.func28, Tryd.ntmps28
    go_wp2_with fail
    refine HP.out.2.2.mono ?_
    rintro e w1 ⟨pp, rfl, hB, _⟩
    have HB := Lib.hid hB
    clear hB
    go_wp2_with fail
    go_ret2
    refine ⟨none, 0, ?_, ?_, HB.out.alloc HB.out.size _⟩
    · rw [if_neg HK.out, ← HP.out.1]; rfl
    · rw [if_neg HK.out]; exact ⟨Rd.nil _ _ _, Nat.le_refl _, by omega⟩

/-- what Force leaves -/
def ForcePost (w : World) (p : Pol) (days : List Int) (e : Ending) (w' : World) : Prop :=
  ∃ A c, e = .returned (.tuple #[.slice A (if startS p days = 0 then forceS p days else []).length c, .int .i64 (startS p days)]) ∧ IntsAt w' A c (if startS p days = 0 then forceS p days else []) ∧ Below w.heap.size w w'

set_option maxRecDepth 100000 in
set_option maxHeartbeats 1000000 in
theorem Force_any (As : Option Addr) (cs : Nat) (p : Pol) (A : Option Addr) (c : Nat) (days : List Int) (w : World) (hp : PolV w As cs p) (hr : Rd w 1 A days.length (ints days)) (hm : days.length ≤ 9223372036854775807) :
    Calls Tryd.prog 31 #[.agg #[.slice As p.steps.length cs, .int .i64 p.hold, .int .i64 p.calm, .int .i64 p.notice, .int .i64 p.grace], .slice A days.length c] w (ForcePost w p days) := by
  obtain ⟨er, her⟩ : ∃ er, er = startS p days := ⟨_, rfl⟩
  have hst : Calls Tryd.prog 56 #[.agg #[.slice As p.steps.length cs, .int .i64 p.hold, .int .i64 p.calm, .int .i64 p.notice, .int .i64 p.grace], .slice A days.length c]
      (w.alloc (.cells #[.slice As p.steps.length cs, .int .i64 p.hold, .int .i64 p.calm, .int .i64 p.notice, .int .i64 p.grace] 51))
      fun e w1 => ∃ pp, e = .returned (.tuple #[.agg #[.pointer pp], .int .i64 er]) ∧ Below w.heap.size w w1 ∧ (er = 0 → ∃ pb, pp = some ⟨pb, 0, none⟩ ∧ PolAt w1 pb p) := by
    refine (start8_any As cs p A c days _ ⟨hp.1, hp.2.1, hp.2.2.below ((Below.refl _ _).alloc (Nat.le_refl _) _)⟩ (hr.below ((Below.refl _ _).alloc (Nat.le_refl _) _)) hm).mono ?_
    rintro e w1 ⟨pp, rfl, hB, h0, _⟩
    exact ⟨pp, by rw [her], ((Below.refl _ _).alloc (Nat.le_refl _) _).trans (hB.mono (by simp)), fun h => h0 (her.symm.trans h)⟩
  have HP := Lib.hid (And.intro her (And.intro hr hst))
  clear her hst
  by_cases h0 : er = 0
  · subst h0
    have hs0 : startS p days = 0 := HP.out.1.symm
    obtain ⟨hck, hl4, _⟩ := start_ok hs0
    obtain ⟨k1, k2, k3, k4, k5, k6, k7, k8, k9, k10⟩ := check_ok hck
    have hne : ((0 : Int) != 0) = false := rfl
    have HK := Lib.hid (And.intro hs0 (And.intro k1 (And.intro k3 (And.intro k4 (And.intro k5 (And.intro k6 (And.intro k7 k8)))))))
    clear hs0 hck k1 k2 k3 k4 k5 k6 k7 k8 k9 k10 hr
    go_enter Tryd.func31, Tryd.ntmps31
    go_wp2_with fail
    refine HP.out.2.2.mono ?_
    rintro e w1 ⟨pp, rfl, hB, h0⟩
    obtain ⟨pb, rfl, hpol⟩ := h0 trivial
    have HB := Lib.hid (And.intro hB hpol)
    clear hB hpol h0
    go_wp2_with fail
    refine (force_any pb p A c days _ (HB.out.2.below ((Below.refl _ _).alloc (Nat.le_refl _) _)) ⟨HK.out.2.2.1, by have := HK.out.2.2.2.1; omega⟩ ⟨HK.out.2.2.2.2.1, by have := HK.out.2.2.2.2.2.1; omega⟩ ⟨HK.out.2.2.2.2.2.2.1, by have := HK.out.2.2.2.2.2.2.2; omega⟩ ((HP.out.2.1.below HB.out.1).below ((Below.refl _ _).alloc (Nat.le_refl _) _)) (by omega)).mono ?_
    rintro e w2 ⟨A2, c2, rfl, i2, b2⟩
    go_wp2_with fail
    go_ret2
    refine ⟨A2, c2, ?_, ?_, ?_⟩
    · rw [if_pos HK.out.1, HK.out.1, forceS_length]; rfl
    · rw [if_pos HK.out.1]; exact i2
    · exact HB.out.1.trans (((Below.refl _ _).alloc (Nat.le_refl _) _).trans (b2.mono (by simp)) |>.mono HB.out.1.size)
  · have hne : (er != 0) = true := by simp [h0]
    have hs0 : startS p days ≠ 0 := fun h => h0 (HP.out.1.trans h)
    have HK := Lib.hid hs0
    clear hs0 h0 hr
    go_enter Tryd.func31, Tryd.ntmps31
    go_wp2_with fail
    refine HP.out.2.2.mono ?_
    rintro e w1 ⟨pp, rfl, hB, _⟩
    have HB := Lib.hid hB
    clear hB
    go_wp2_with fail
    go_ret2
    refine ⟨none, 0, ?_, ?_, HB.out.alloc HB.out.size _⟩
    · rw [if_neg HK.out, ← HP.out.1]; rfl
    · rw [if_neg HK.out]; exact ⟨Rd.nil _ _ _, Nat.le_refl _, by omega⟩

end Go.Proofs.YtalcinepeofmcaaDoor
/- the chapter's example: what each function answers -/
namespace Go.Proofs.YtalcinepeofmcaaDoor
open Go Go.RowKit Sp

def exPs : List Psg := [⟨⟨1, 2500, true⟩, 3, 6⟩, ⟨⟨1, 2500, true⟩, 3, 7⟩, ⟨⟨1, 2500, true⟩, 4, 4⟩]
set_option maxRecDepth 100000
theorem ex_start : startS exP exD = 0 := by decide +kernel
theorem ex_dec : decidedS exP exD = [0, 1, 1, 2, 2, 2, 1, 0, 0] := by decide +kernel
theorem ex_force : forceS exP exD = [0, 0, 1, 1, 2, 2, 1, 0, 0] := by decide +kernel
theorem ex_ord : ordersS exP exD = [⟨1, 2, 1⟩, ⟨3, 4, 2⟩, ⟨6, 6, 1⟩, ⟨7, 7, 0⟩] := by decide +kernel
theorem ex_wit : witR exP exD 5 = (0, 2, 3) := by decide +kernel
theorem ex_ask : askS exP exD ⟨1, 2500, false⟩ = 0 := by decide +kernel
theorem ex_win : windowsS exP exD ⟨1, 2500, false⟩ = [(0, 3), (6, 8)] := by decide +kernel
theorem ex_revE : reviewE exP exD exPs = 0 := by decide +kernel
theorem ex_rev : reviewS exP exD exPs = [0, 2, 1] := by decide +kernel

/-- Example's policy as a value -/
def exV (b : Nat) : Value := .agg #[.slice (some ⟨b, 0, none⟩) 3 3, .int .i64 2, .int .i64 3, .int .i64 1, .int .i64 2]

section
variable (ba bb : Nat) (w : World) (hp : PolV w (some ⟨ba, 0, none⟩) 3 exP) (hd : Rd w 1 (some ⟨bb, 0, none⟩) 9 (ints exD))
include hp hd
theorem dec_ex : Calls Tryd.prog 28 #[.agg #[.slice (some ⟨ba, 0, none⟩) 3 3, .int .i64 2, .int .i64 3, .int .i64 1, .int .i64 2], .slice (some ⟨bb, 0, none⟩) 9 9] w
    fun e w' => ∃ A c, e = .returned (.tuple #[.slice A 9 c, .int .i64 0]) ∧ Rd w' 1 A 9 (ints [0, 1, 1, 2, 2, 2, 1, 0, 0]) ∧ Below w.heap.size w w' := by
  refine (Decided_any (some ⟨ba, 0, none⟩) 3 exP (some ⟨bb, 0, none⟩) 9 exD w hp hd (by decide)).mono ?_
  rintro e w' ⟨A, c, rfl, h1, h2⟩
  rw [if_pos ex_start, ex_dec] at *
  exact ⟨A, c, by rw [ex_start]; rfl, h1.1, h2⟩
theorem for_ex : Calls Tryd.prog 31 #[.agg #[.slice (some ⟨ba, 0, none⟩) 3 3, .int .i64 2, .int .i64 3, .int .i64 1, .int .i64 2], .slice (some ⟨bb, 0, none⟩) 9 9] w
    fun e w' => ∃ A c, e = .returned (.tuple #[.slice A 9 c, .int .i64 0]) ∧ Rd w' 1 A 9 (ints [0, 0, 1, 1, 2, 2, 1, 0, 0]) ∧ Below w.heap.size w w' := by
  refine (Force_any (some ⟨ba, 0, none⟩) 3 exP (some ⟨bb, 0, none⟩) 9 exD w hp hd (by decide)).mono ?_
  rintro e w' ⟨A, c, rfl, h1, h2⟩
  rw [if_pos ex_start, ex_force] at *
  exact ⟨A, c, by rw [ex_start]; rfl, h1.1, h2⟩
theorem ord_ex : Calls Tryd.prog 32 #[.agg #[.slice (some ⟨ba, 0, none⟩) 3 3, .int .i64 2, .int .i64 3, .int .i64 1, .int .i64 2], .slice (some ⟨bb, 0, none⟩) 9 9] w
    fun e w' => ∃ A c, e = .returned (.tuple #[.slice A 4 c, .int .i64 0]) ∧ Rd w' 3 A 4 (occs [⟨1, 2, 1⟩, ⟨3, 4, 2⟩, ⟨6, 6, 1⟩, ⟨7, 7, 0⟩]) ∧ Below w.heap.size w w' := by
  refine (Orders_any (some ⟨ba, 0, none⟩) 3 exP (some ⟨bb, 0, none⟩) 9 exD w hp hd (by decide)).mono ?_
  rintro e w' ⟨v, rfl, h1, h2⟩
  rw [if_pos ex_start, ex_ord] at *
  obtain ⟨g, cap, rfl⟩ := ownsRow_succ h1
  exact ⟨_, cap, by rw [ex_start]; rfl, Rd.of_own h1, h2⟩
theorem wit_ex : Calls Tryd.prog 33 #[.agg #[.slice (some ⟨ba, 0, none⟩) 3 3, .int .i64 2, .int .i64 3, .int .i64 1, .int .i64 2], .slice (some ⟨bb, 0, none⟩) 9 9, .int .i64 5] w
    fun e w' => e = .returned (.tuple #[.agg #[.int .i64 2, .int .i64 3], .int .i64 0]) ∧ Below w.heap.size w w' := by
  refine (Witness_any (some ⟨ba, 0, none⟩) 3 exP (some ⟨bb, 0, none⟩) 9 exD 5 w hp hd (by decide)).mono ?_
  rintro e w' ⟨rfl, h2⟩
  rw [ex_wit]
  exact ⟨rfl, h2⟩
theorem win_ex : Calls Tryd.prog 34 #[.agg #[.slice (some ⟨ba, 0, none⟩) 3 3, .int .i64 2, .int .i64 3, .int .i64 1, .int .i64 2], .slice (some ⟨bb, 0, none⟩) 9 9, .agg #[.int .i64 1, .int .i64 2500, .bool false]] w
    fun e w' => ∃ A c, e = .returned (.tuple #[.slice A 2 c, .int .i64 0]) ∧ Rd w' 2 A 2 (spcs [(0, 3), (6, 8)]) ∧ Below w.heap.size w w' := by
  refine (Windows_any (some ⟨ba, 0, none⟩) 3 exP (some ⟨bb, 0, none⟩) 9 exD ⟨1, 2500, false⟩ w hp hd (by decide)).mono ?_
  rintro e w' ⟨A, c, rfl, h1, h2⟩
  rw [ex_win] at *
  exact ⟨A, c, by rw [ex_ask]; rfl, h1.1, h2⟩
theorem rev_ex (bp : Nat) (hl : Rd w 5 (some ⟨bp, 0, none⟩) 3 (pscs exPs)) : Calls Tryd.prog 35 #[.agg #[.slice (some ⟨ba, 0, none⟩) 3 3, .int .i64 2, .int .i64 3, .int .i64 1, .int .i64 2], .slice (some ⟨bb, 0, none⟩) 9 9, .slice (some ⟨bp, 0, none⟩) 3 3] w
    fun e w' => ∃ A c, e = .returned (.tuple #[.slice A 3 c, .int .i64 0]) ∧ Rd w' 1 A 3 (ints [0, 2, 1]) ∧ Below w.heap.size w w' := by
  refine (Review_any (some ⟨ba, 0, none⟩) 3 exP (some ⟨bb, 0, none⟩) 9 exD (some ⟨bp, 0, none⟩) 3 exPs w hp hd (by decide) hl (by decide)).mono ?_
  rintro e w' ⟨A, c, rfl, h1, h2⟩
  rw [ex_rev] at *
  exact ⟨A, c, by rw [ex_revE]; rfl, h1.1, h2⟩
end
theorem eqInts_same (A B : Option Addr) (c d n : Nat) (l : List Int) (w : World) (hn : n = l.length) (hm : n ≤ 1000) (h1 : Rd w 1 A n (ints l)) (h2 : Rd w 1 B n (ints l)) :
    Calls Tryd.prog 36 #[.slice A n c, .slice B n d] w fun e w' => e = .returned (.bool true) ∧ Below w.heap.size w w' := by
  subst hn
  have := eqInts_any A c l B d l w h1 h2 (by omega) (by omega)
  rwa [decide_eq_true rfl] at this
theorem eqOrds_same (A B : Option Addr) (c d n : Nat) (l : List Ord) (w : World) (hn : n = l.length) (hm : n ≤ 1000) (h1 : Rd w 3 A n (occs l)) (h2 : Rd w 3 B n (occs l)) :
    Calls Tryd.prog 37 #[.slice A n c, .slice B n d] w fun e w' => e = .returned (.bool true) ∧ Below w.heap.size w w' := by
  subst hn
  have := eqOrds_any A c l B d l w h1 h2 (by omega) (by omega)
  rwa [decide_eq_true rfl] at this
theorem eqSpans_same (A B : Option Addr) (c d n : Nat) (l : List (Int × Int)) (w : World) (hn : n = l.length) (hm : n ≤ 1000) (h1 : Rd w 2 A n (spcs l)) (h2 : Rd w 2 B n (spcs l)) :
    Calls Tryd.prog 38 #[.slice A n c, .slice B n d] w fun e w' => e = .returned (.bool true) ∧ Below w.heap.size w w' := by
  subst hn
  have := eqSpans_any A c l B d l w h1 h2 (by omega) (by omega)
  rwa [decide_eq_true rfl] at this
end Go.Proofs.YtalcinepeofmcaaDoor
/- the walk of awake (printed by wip/tools/awake.py) -/
namespace Go.Proofs.YtalcinepeofmcaaDoor
open Go Go.RowKit Sp


abbrev VS (vb : Nat) (w : World) : Prop := vb < w.heap.size ∧ w.cell? ⟨vb, 0, none⟩ = some (.int .i64 1) ∧ w.cell? ⟨vb, 1, none⟩ = some (.int .i64 2500) ∧ w.cell? ⟨vb, 2, none⟩ = some (.bool true)
theorem vs_alloc {vb : Nat} {w : World} (h : VS vb w) (o : Obj) : VS vb (w.alloc o) := ⟨by have := h.1; simp; omega, (World.cell?_alloc_lt w o ⟨vb, 0, none⟩ h.1).trans h.2.1, (World.cell?_alloc_lt w o ⟨vb, 1, none⟩ h.1).trans h.2.2.1, (World.cell?_alloc_lt w o ⟨vb, 2, none⟩ h.1).trans h.2.2.2⟩
theorem vs_below {vb : Nat} {w w' : World} (h : VS vb w) (hb : Below w.heap.size w w') : VS vb w' := ⟨Nat.lt_of_lt_of_le h.1 hb.size, (hb.cell (p := ⟨vb, 0, none⟩) h.1).trans h.2.1, (hb.cell (p := ⟨vb, 1, none⟩) h.1).trans h.2.2.1, (hb.cell (p := ⟨vb, 2, none⟩) h.1).trans h.2.2.2⟩

set_option maxRecDepth 100000 in
set_option maxHeartbeats 8000000 in
theorem awake_any (w : World) : Calls Tryd.prog 10 #[] w fun e w' => e = .returned (.bool true) ∧ Below w.heap.size w w' := by
  go_enter Tryd.func10, Tryd.ntmps10
  go_upto_region 2 with (first
    | (go_at_call 29; refine (Example_any _).mono ?_; rintro e wa ⟨ba, rfl, hp, b1⟩)
    | (go_at_call 30; refine (winter_any _).mono ?_; rintro e wb ⟨bb, rfl, hd, b2⟩)
    | (go_at_call 28; refine (dec_ex ba bb _ (hp.below b2) hd).mono ?_; rintro e w1 ⟨A1, c1, rfl, r1, b3⟩))
  have bS : Below w.heap.size w w1 := b1.trans ((b2.mono b1.size).trans (b3.mono (Nat.le_trans b1.size b2.size)))
  have B1 : Below w.heap.size w w1 := bS
  clear b1 b2 b3 hp hd bS
  go_upto_region 3 with (first
    | (go_at_call 29; refine (Example_any _).mono ?_; rintro e wa ⟨ba, rfl, hp, b1⟩)
    | (go_at_call 30; refine (winter_any _).mono ?_; rintro e wb ⟨bb, rfl, hd, b2⟩)
    | (go_at_call 31; refine (for_ex ba bb _ (hp.below b2) hd).mono ?_; rintro e w2 ⟨A2, c2, rfl, r2, b3⟩))
  have bS : Below w1.heap.size w1 w2 := b1.trans ((b2.mono b1.size).trans (b3.mono (Nat.le_trans b1.size b2.size)))
  have B2 : Below w.heap.size w w2 := B1.trans (bS.mono B1.size)
  have r1 := r1.below bS
  clear b1 b2 b3 hp hd bS B1
  go_upto_region 4 with (first
    | (go_at_call 29; refine (Example_any _).mono ?_; rintro e wa ⟨ba, rfl, hp, b1⟩)
    | (go_at_call 30; refine (winter_any _).mono ?_; rintro e wb ⟨bb, rfl, hd, b2⟩)
    | (go_at_call 32; refine (ord_ex ba bb _ (hp.below b2) hd).mono ?_; rintro e w3 ⟨A3, c3, rfl, r3, b3⟩))
  have bS : Below w2.heap.size w2 w3 := b1.trans ((b2.mono b1.size).trans (b3.mono (Nat.le_trans b1.size b2.size)))
  have B3 : Below w.heap.size w w3 := B2.trans (bS.mono B2.size)
  have r1 := r1.below bS
  have r2 := r2.below bS
  clear b1 b2 b3 hp hd bS B2
  go_upto_region 5 with (first
    | (go_at_call 29; refine (Example_any _).mono ?_; rintro e wa ⟨ba, rfl, hp, b1⟩)
    | (go_at_call 30; refine (winter_any _).mono ?_; rintro e wb ⟨bb, rfl, hd, b2⟩)
    | (go_at_call 33; refine (wit_ex ba bb _ (hp.below b2) hd).mono ?_; rintro e w4 ⟨rfl, b3⟩))
  have bS : Below w3.heap.size w3 w4 := b1.trans ((b2.mono b1.size).trans (b3.mono (Nat.le_trans b1.size b2.size)))
  have B4 : Below w.heap.size w w4 := B3.trans (bS.mono B3.size)
  have r1 := r1.below bS
  have r2 := r2.below bS
  have r3 := r3.below bS
  clear b1 b2 b3 hp hd bS B3
  obtain ⟨w4x, hw4⟩ : ∃ W, W = w4.alloc (.cells #[.int .i64 2, .int .i64 3] 28) := ⟨_, rfl⟩
  rw [← hw4]
  have bS : Below w4.heap.size w4 w4x := by rw [hw4]; exact (Below.refl _ _).alloc (Nat.le_refl _) _
  have s0 : w4x.cell? ⟨w4.heap.size, 0, none⟩ = some (.int .i64 2) := by rw [hw4, World.cell?_alloc_new]; rfl
  have s1 : w4x.cell? ⟨w4.heap.size, 1, none⟩ = some (.int .i64 3) := by rw [hw4, World.cell?_alloc_new]; rfl
  have sz : w4.heap.size < w4x.heap.size := by rw [hw4]; simp
  have B4x : Below w.heap.size w w4x := B4.trans (bS.mono B4.size)
  have r1 := r1.below bS
  have r2 := r2.below bS
  have r3 := r3.below bS
  generalize hsb : w4.heap.size = sb at s0 s1 sz ⊢
  clear hw4 bS B4 hsb
  go_upto_region 6 with (first
    | (go_at_call 29; refine (Example_any _).mono ?_; rintro e wa ⟨ba, rfl, hp, b1⟩)
    | (go_at_call 30; refine (winter_any _).mono ?_; rintro e wb ⟨bb, rfl, hd, b2⟩)
    | (go_at_call 34; refine (win_ex ba bb _ (hp.below b2) hd).mono ?_; rintro e w5 ⟨A5, c5, rfl, r5, b3⟩))
  have bS : Below w4x.heap.size w4x w5 := b1.trans ((b2.mono b1.size).trans (b3.mono (Nat.le_trans b1.size b2.size)))
  have B5 : Below w.heap.size w w5 := B4x.trans (bS.mono B4x.size)
  have r1 := r1.below bS
  have r2 := r2.below bS
  have r3 := r3.below bS
  have s0 := (bS.cell (p := ⟨sb, 0, none⟩) sz).trans s0
  have s1 := (bS.cell (p := ⟨sb, 1, none⟩) sz).trans s1
  have sz : sb < w5.heap.size := Nat.lt_of_lt_of_le sz bS.size
  clear b1 b2 b3 hp hd bS B4x
  go_upto_region 7 with fail
  obtain ⟨w6, hw6⟩ : ∃ W, W = w5.alloc (.cells #[.int .i64 1, .int .i64 2500, .bool true] 53) := ⟨_, rfl⟩
  rw [← hw6]
  have bS : Below w5.heap.size w5 w6 := by rw [hw6]; exact (Below.refl _ _).alloc (Nat.le_refl _) _
  have v0 : w6.cell? ⟨w5.heap.size, 0, none⟩ = some (.int .i64 1) := by rw [hw6, World.cell?_alloc_new]; rfl
  have v1 : w6.cell? ⟨w5.heap.size, 1, none⟩ = some (.int .i64 2500) := by rw [hw6, World.cell?_alloc_new]; rfl
  have v2 : w6.cell? ⟨w5.heap.size, 2, none⟩ = some (.bool true) := by rw [hw6, World.cell?_alloc_new]; rfl
  have vz : w5.heap.size < w6.heap.size := by rw [hw6]; simp
  have B6 : Below w.heap.size w w6 := B5.trans (bS.mono B5.size)
  have s0 := (bS.cell (p := ⟨sb, 0, none⟩) sz).trans s0
  have s1 := (bS.cell (p := ⟨sb, 1, none⟩) sz).trans s1
  have sz : sb < w6.heap.size := Nat.lt_of_lt_of_le sz bS.size
  have r1 := r1.below bS
  have r2 := r2.below bS
  have r3 := r3.below bS
  have r5 := r5.below bS
  generalize hvb : w5.heap.size = vb at v0 v1 v2 vz ⊢
  clear hw6 bS B5 hvb
  have HR := Lib.hid (And.intro r1 (And.intro r2 (And.intro r3 (And.intro r5 (And.intro s0 (And.intro s1 (And.intro sz B6)))))))
  clear r1 r2 r3 r5 s0 s1 sz B6
  have hv : VS vb w6 := ⟨vz, v0, v1, v2⟩
  clear vz v0 v1 v2
  go_region_held3 (fun w' => vb < w'.heap.size ∧ w'.cell? ⟨vb, 0, none⟩ = some (.int .i64 1) ∧ w'.cell? ⟨vb, 1, none⟩ = some (.int .i64 2500) ∧ w'.cell? ⟨vb, 2, none⟩ = some (.bool true)) (first | assumption | exact vs_alloc (by assumption) _ | exact vs_alloc (vs_below (by assumption) (Below.refl _ _).drew) _ | (simp only [World.size_drew, World.cell?_drew]; assumption))
    (first
      | (go_at_call 29; refine (Example_any _).mono ?_; rintro e wa ⟨ba, rfl, hp, b1⟩; have hva : VS vb wa := by first | exact vs_below (vs_below hv (Below.refl _ _).drew) b1 | exact vs_below (vs_alloc (vs_below hv (Below.refl _ _).drew) _) b1)
      | (go_at_call 30; refine (winter_any _).mono ?_; rintro e wb ⟨bb, rfl, hd, b2⟩; have hvb : VS vb wb := by first | exact vs_below hva b2 | exact vs_below (vs_alloc hva _) b2)
      | (go_at_call 35
         first
           | (have hp' := hp.below b2
              have hl' := (rd_lit wb 5 3 (pscs exPs) 92 rfl)
              have b0 : Below w6.heap.size w6 wb := (Below.refl _ _).drew.trans (b1.trans (b2.mono b1.size))
              have bl := (Below.refl wb.heap.size wb).alloc (Nat.le_refl _) (.cells (pscs exPs).toArray 92)
              refine (rev_ex ba bb _ (hp'.below bl) (hd.below bl) wb.heap.size hl').mono ?_
              rintro e w7 ⟨A6, c6, rfl, r6, b3⟩
              have hvc := vs_below (vs_alloc hvb _) b3
              have b4 : Below w6.heap.size w6 w7 := b0.trans ((bl.trans (b3.mono (by simp))).mono b0.size)
              clear b1 b2 b3 hp hd hp' hl' b0 bl)
           | (have hp' := hp.below b2
              have hl' := ((rd_lit w6.drew 5 3 (pscs exPs) 92 rfl).below b1).below b2
              have b0 : Below w6.heap.size w6 wb := ((Below.refl w6.heap.size w6).drew.alloc (Nat.le_refl _) _).trans ((b1.trans (b2.mono b1.size)).mono (by simp))
              refine (rev_ex ba bb _ hp' hd w6.heap.size hl').mono ?_
              rintro e w7 ⟨A6, c6, rfl, r6, b3⟩
              have hvc := vs_below hvb b3
              have b4 : Below w6.heap.size w6 w7 := b0.trans (b3.mono b0.size)
              clear b1 b2 b3 hp hd hp' hl' b0)
           | (have hp' := (hp.below ((Below.refl _ _).alloc (Nat.le_refl _) _)).below b2
              have hl' := (rd_lit wa 5 3 (pscs exPs) 92 rfl).below b2
              have ba' : Below w6.heap.size w6 wa := (Below.refl _ _).drew.trans b1
              have b0 : Below w6.heap.size w6 wb := (ba'.alloc ba'.size _).trans (b2.mono (by have := ba'.size; simp; omega))
              refine (rev_ex ba bb _ hp' hd wa.heap.size hl').mono ?_
              rintro e w7 ⟨A6, c6, rfl, r6, b3⟩
              have hvc := vs_below hvb b3
              have b4 : Below w6.heap.size w6 w7 := b0.trans (b3.mono b0.size)
              clear b1 b2 b3 hp hd hp' hl' b0 ba')))
  all_goals
    obtain ⟨r1, r2, r3, r5, s0, s1, sz, B6⟩ := HR.out
    have B7 : Below w.heap.size w w7 := B6.trans (b4.mono B6.size)
    have r1 := r1.below b4
    have r2 := r2.below b4
    have r3 := r3.below b4
    have r5 := r5.below b4
    have s0 := (b4.cell (p := ⟨sb, 0, none⟩) sz).trans s0
    have s1 := (b4.cell (p := ⟨sb, 1, none⟩) sz).trans s1
    have sz : sb < w7.heap.size := Nat.lt_of_lt_of_le sz b4.size
    clear b4 hv hva hvb hvc B6 HR
    have HR2 := Lib.hid (And.intro r1 (And.intro r2 (And.intro r3 (And.intro r5 r6))))
    clear r1 r2 r3 r5 r6
    go_wp2_with fail
    refine (eqInts_same A1 _ c1 9 9 [0, 1, 1, 2, 2, 2, 1, 0, 0] _ rfl (by decide) (HR2.out.1.below ((Below.refl _ _).alloc (Nat.le_refl _) _)) (rd_lit _ 1 9 (ints [0, 1, 1, 2, 2, 2, 1, 0, 0]) _ rfl)).mono ?_
    rintro e x1 ⟨rfl, b1⟩
    have d1 : Below w7.heap.size w7 x1 := ((Below.refl _ _).alloc (Nat.le_refl _) _).trans (b1.mono (by simp))
    have HD1 := Lib.hid d1
    clear b1 d1
    go_wp2_with fail
    refine (eqInts_same A2 _ c2 9 9 [0, 0, 1, 1, 2, 2, 1, 0, 0] _ rfl (by decide) (HR2.out.2.1.below (HD1.out.alloc HD1.out.size _)) (rd_lit _ 1 9 (ints [0, 0, 1, 1, 2, 2, 1, 0, 0]) _ rfl)).mono ?_
    rintro e x2 ⟨rfl, b2⟩
    have d2 : Below w7.heap.size w7 x2 := (HD1.out.alloc HD1.out.size _).trans (b2.mono (by have := HD1.out.size; simp; omega))
    have HD2 := Lib.hid d2
    clear b2 d2
    go_wp2_with fail
    refine (eqOrds_same A3 _ c3 4 4 [⟨1, 2, 1⟩, ⟨3, 4, 2⟩, ⟨6, 6, 1⟩, ⟨7, 7, 0⟩] _ rfl (by decide) (HR2.out.2.2.1.below (HD2.out.alloc HD2.out.size _)) (rd_lit _ 3 4 (occs [⟨1, 2, 1⟩, ⟨3, 4, 2⟩, ⟨6, 6, 1⟩, ⟨7, 7, 0⟩]) _ rfl)).mono ?_
    rintro e x3 ⟨rfl, b3⟩
    have d3 : Below w7.heap.size w7 x3 := (HD2.out.alloc HD2.out.size _).trans (b3.mono (by have := HD2.out.size; simp; omega))
    have s0' := (d3.cell (p := ⟨sb, 0, none⟩) sz).trans s0
    have s1' := (d3.cell (p := ⟨sb, 1, none⟩) sz).trans s1
    have HD3 := Lib.hid d3
    clear b3 d3
    go_wp2_with fail
    refine (eqSpans_same A5 _ c5 2 2 [(0, 3), (6, 8)] _ rfl (by decide) (HR2.out.2.2.2.1.below (HD3.out.alloc HD3.out.size _)) (rd_lit _ 2 2 (spcs [(0, 3), (6, 8)]) _ rfl)).mono ?_
    rintro e x4 ⟨rfl, b4⟩
    have d4 : Below w7.heap.size w7 x4 := (HD3.out.alloc HD3.out.size _).trans (b4.mono (by have := HD3.out.size; simp; omega))
    have HD4 := Lib.hid d4
    clear b4 d4
    go_wp2_with fail
    refine (eqInts_same A6 _ c6 3 3 [0, 2, 1] _ rfl (by decide) (HR2.out.2.2.2.2.below (HD4.out.alloc HD4.out.size _)) (rd_lit _ 1 3 (ints [0, 2, 1]) _ rfl)).mono ?_
    rintro e x5 ⟨rfl, b5⟩
    have d5 : Below w7.heap.size w7 x5 := (HD4.out.alloc HD4.out.size _).trans (b5.mono (by have := HD4.out.size; simp; omega))
    go_wp2_with fail
    go_ret
    exact ⟨rfl, B7.trans (d5.mono B7.size)⟩
end Go.Proofs.YtalcinepeofmcaaDoor
/- RestrictSafe from Calm on (printed by wip/tools/safe.py) -/
namespace Go.Proofs.YtalcinepeofmcaaDoor
open Go Go.RowKit Go.Lib Sp Hu
set_option linter.unusedVariables false
set_option linter.unusedSimpArgs false

set_option maxRecDepth 100000 in
set_option maxHeartbeats 4000000 in
theorem safe_u {Q0 : Exit → Act → World → Prop} {h : ShC} {w W0 wx : World} {cb spb : Nat} {x : Cel} {m cl lo hi : Int} (ok : shipE h.s = 0) (hx : celOk x = true) (R0 : ShR h.At h.Aw h.Ai h.s W0) (G0 : StrG W0) (bw : Below w.heap.size w W0) (hm : 0 ≤ m ∧ m ≤ 255) (elo : lo = x.b0 + 50 * x.d0) (ehi : hi = x.b1 + 50 * x.d1) (O : Own W0.heap.size W0 [.blk h.sb (.cells (shpV h.At h.ct h.Aw h.cw h.Ai h.ci h.s) 25), .blk cb (.cells (celA (safeC x)) 30), .blk spb (.cells #[.int .i64 lo, .int .i64 hi] 28)] wx) {s0 s1 s2 s3 s4 s5 s6 s9 s10 s11 s12 s13 s14 s15 s16 s17 s18 s19 s20 s21 s22 s23 s24 s25 s26 s27 s28 s29 s30 s31 s32 s33 s34 s35 s36 s37 s38 s39 s40 s41 s42 s43 s44 s45 s46 s47 s48 s49 s50 s51 s52 s53 s54 s55 s56 s57 s58 s59 s60 s61 s62 s63 s64 s65 s66 s67 s68 s69 s70 s71 s72 s73 s74 s75 s76 s77 s78 s79 s80 s81 s82 s83 s84 s85 s86 s87 s88 s89 s90 s91 s92 s93 s94 s95 s96 s97 s98 s99 s100 s101 s102 s103 s104 s105 s106 s107 s108 s109 s110 s111 s112 s113 s114 s115 s116 s117 s118 s119 s120 s121 s122 s123 s124 s125 s126 s127 s128 s129 s130 s131 s132 s133 s134 s135 s136 s137 s138 s139 s140 s141 s142 s143 s144 s145 s146 s147 s148 s149 s150 s151 s152 s153 s154 s155 s156 s157 s158 s159 s160 s161 s162 s163 s164 s165 s166 s167 s168 s169 s170 s171 s172 s173 s174 s175 s176 s177 s178 s179 s180 s181 s182 s183 s184 s185 s186 s187 : Value} (hQ0 : ∀ e1 a1 w1, bodyPost Tryd.prog Tryd.f3 (fun e w' => e = .returned (.bool true) ∧ Below w.heap.size w w') e1 a1 w1 → Q0 e1 a1 w1) :
    Code.wp Tryd.prog (restOf Tryd.f3 38) Q0 ⟨#[s0, s1, s2, s3, s4, s5, s6, .pointer (some ⟨h.sb, 0, none⟩), .pointer (some ⟨cb, 0, none⟩), s9, s10, s11, s12, s13, s14, s15, s16, s17, s18, s19, s20, s21, s22, s23, s24, s25, s26, s27, s28, s29, s30, s31, s32, s33, s34, s35, s36, s37, s38, s39, s40, s41, s42, s43, s44, s45, s46, s47, s48, s49, s50, s51, s52, s53, s54, s55, s56, s57, s58, s59, s60, s61, s62, s63, s64, s65, s66, s67, s68, s69, s70, s71, s72, s73, s74, s75, s76, s77, s78, s79, s80, s81, s82, s83, s84, s85, s86, s87, s88, s89, s90, s91, s92, s93, s94, s95, s96, s97, s98, s99, s100, s101, s102, s103, s104, s105, s106, s107, s108, s109, s110, s111, s112, s113, s114, s115, s116, s117, s118, s119, s120, s121, s122, s123, s124, s125, s126, s127, s128, s129, s130, s131, s132, s133, s134, s135, s136, s137, s138, s139, s140, s141, s142, s143, s144, s145, s146, s147, s148, s149, s150, s151, s152, s153, s154, s155, s156, s157, s158, s159, s160, s161, s162, s163, s164, s165, s166, s167, s168, s169, s170, s171, s172, s173, s174, s175, s176, s177, s178, s179, s180, s181, s182, s183, s184, s185, s186, s187], []⟩ wx := by
  refine wp_mono ?_ hQ0
  clear hQ0
  conv => arg 2; whnf
  have kc := calm_any h.At h.ct h.Aw h.cw h.Ai h.ci h.s (safeC x) wx (R0.below O.bel) ok (safeC_ok hx)
  have KC := Lib.hid kc
  have KW := Lib.hid awake_any
  have HO := Lib.hid (And.intro O (And.intro R0 (And.intro ok (And.intro hx bw))))
  have s_ := O.heap 0 rfl
  have c_ := O.heap 1 rfl
  have sv0 : wx.cell? ⟨h.sb, 0, none⟩ = some _ := (cell_of_heap s_ 0).trans rfl
  have sv1 : wx.cell? ⟨h.sb, 1, none⟩ = some _ := (cell_of_heap s_ 1).trans rfl
  have sv2 : wx.cell? ⟨h.sb, 2, none⟩ = some _ := (cell_of_heap s_ 2).trans rfl
  have sv3 : wx.cell? ⟨h.sb, 3, none⟩ = some _ := (cell_of_heap s_ 3).trans rfl
  have sv4 : wx.cell? ⟨h.sb, 4, none⟩ = some _ := (cell_of_heap s_ 4).trans rfl
  have sv5 : wx.cell? ⟨h.sb, 5, none⟩ = some _ := (cell_of_heap s_ 5).trans rfl
  have sv6 : wx.cell? ⟨h.sb, 6, none⟩ = some _ := (cell_of_heap s_ 6).trans rfl
  have sv7 : wx.cell? ⟨h.sb, 7, none⟩ = some _ := (cell_of_heap s_ 7).trans rfl
  have sv8 : wx.cell? ⟨h.sb, 8, none⟩ = some _ := (cell_of_heap s_ 8).trans rfl
  have sv9 : wx.cell? ⟨h.sb, 9, none⟩ = some _ := (cell_of_heap s_ 9).trans rfl
  have sv10 : wx.cell? ⟨h.sb, 10, none⟩ = some _ := (cell_of_heap s_ 10).trans rfl
  have kv0 : wx.cell? ⟨cb, 0, none⟩ = some _ := (cell_of_heap c_ 0).trans rfl
  have kv1 : wx.cell? ⟨cb, 1, none⟩ = some _ := (cell_of_heap c_ 1).trans rfl
  have kv2 : wx.cell? ⟨cb, 2, none⟩ = some _ := (cell_of_heap c_ 2).trans rfl
  have kv3 : wx.cell? ⟨cb, 3, none⟩ = some _ := (cell_of_heap c_ 3).trans rfl
  have kv4 : wx.cell? ⟨cb, 4, none⟩ = some _ := (cell_of_heap c_ 4).trans rfl
  have kv5 : wx.cell? ⟨cb, 5, none⟩ = some _ := (cell_of_heap c_ 5).trans rfl
  have kv6 : wx.cell? ⟨cb, 6, none⟩ = some _ := (cell_of_heap c_ 6).trans rfl
  have kv7 : wx.cell? ⟨cb, 7, none⟩ = some _ := (cell_of_heap c_ 7).trans rfl
  have zs := heap_lt s_
  have zc := heap_lt c_
  clear s_ c_
  clear kc O R0 G0 ok hx bw elo ehi
  go_upto_region 39 with (go_at_call 12; refine KC.out.mono ?_; rintro e w1 ⟨n, k, rfl, hk, b1⟩; have H1 := Lib.hid (And.intro hk (HO.out.1.below b1)); clear hk b1 sv0 sv1 sv2 sv3 sv4 sv5 sv6 sv7 sv8 sv9 sv10 kv0 kv1 kv2 kv3 kv4 kv5 kv6 kv7 zs zc)
  rcases H1.out.1 with ⟨hk0, hn, hbe⟩ | ⟨hk4, hn0⟩
  · subst hk0
    have c_ := H1.out.2.heap 1 rfl
    have q6 : w1.cell? ⟨cb, 6, none⟩ = some _ := (cell_of_heap c_ 6).trans rfl
    have q7 : w1.cell? ⟨cb, 7, none⟩ = some _ := (cell_of_heap c_ 7).trans rfl
    have f6 := frozen_of_heap c_ 6
    have f7 := frozen_of_heap c_ 7
    have zc := heap_lt c_
    have HB := Lib.hid (And.intro hn hbe)
    clear c_ hn hbe
    go_upto_region 41 with fail
    obtain ⟨X, hX⟩ : ∃ X, X = (w1.setCell ⟨cb, 6, none⟩ (.int .i64 n)).setCell ⟨cb, 7, none⟩ (.int .i64 n) := ⟨_, rfl⟩
    rw [← hX]
    have OX : Own W0.heap.size W0 [.blk h.sb (.cells (shpV h.At h.ct h.Aw h.cw h.Ai h.ci h.s) 25), .blk cb (.cells (celA (prsC (safeC x) n)) 30), .blk spb (.cells #[.int .i64 lo, .int .i64 hi] 28)] X := by
      have hh := H1.out.2.set 1 rfl (w' := X) (by rw [hX]; exact ((Keep.refl _ _).setCell (.inl (by simp)) _).setCell (.inl (by simp)) _) (by rw [hX]; exact heap_set (heap_set (H1.out.2.heap 1 rfl) 6 _) 7 _)
      exact hh
    have kb := beset2_any h.At h.ct h.Aw h.cw h.Ai h.ci h.s (prsC (safeC x) n) true X (HO.out.2.1.below OX.bel) HO.out.2.2.1 (prsC_ok (safeC_ok HO.out.2.2.2.1) HB.out.1)
    rw [HB.out.2] at kb
    obtain ⟨z2, hz2⟩ : ∃ z, z = (endsL (prsC (safeC x) n)).all (slowI h.s true) := ⟨_, rfl⟩
    rw [← hz2] at kb
    have HK := Lib.hid (And.intro kb OX.bel)
    have s_ := OX.heap 0 rfl
    have c_ := OX.heap 1 rfl
    have sv0 : X.cell? ⟨h.sb, 0, none⟩ = some _ := (cell_of_heap s_ 0).trans rfl
    have sv1 : X.cell? ⟨h.sb, 1, none⟩ = some _ := (cell_of_heap s_ 1).trans rfl
    have sv2 : X.cell? ⟨h.sb, 2, none⟩ = some _ := (cell_of_heap s_ 2).trans rfl
    have sv3 : X.cell? ⟨h.sb, 3, none⟩ = some _ := (cell_of_heap s_ 3).trans rfl
    have sv4 : X.cell? ⟨h.sb, 4, none⟩ = some _ := (cell_of_heap s_ 4).trans rfl
    have sv5 : X.cell? ⟨h.sb, 5, none⟩ = some _ := (cell_of_heap s_ 5).trans rfl
    have sv6 : X.cell? ⟨h.sb, 6, none⟩ = some _ := (cell_of_heap s_ 6).trans rfl
    have sv7 : X.cell? ⟨h.sb, 7, none⟩ = some _ := (cell_of_heap s_ 7).trans rfl
    have sv8 : X.cell? ⟨h.sb, 8, none⟩ = some _ := (cell_of_heap s_ 8).trans rfl
    have sv9 : X.cell? ⟨h.sb, 9, none⟩ = some _ := (cell_of_heap s_ 9).trans rfl
    have sv10 : X.cell? ⟨h.sb, 10, none⟩ = some _ := (cell_of_heap s_ 10).trans rfl
    have kv0 : X.cell? ⟨cb, 0, none⟩ = some _ := (cell_of_heap c_ 0).trans rfl
    have kv1 : X.cell? ⟨cb, 1, none⟩ = some _ := (cell_of_heap c_ 1).trans rfl
    have kv2 : X.cell? ⟨cb, 2, none⟩ = some _ := (cell_of_heap c_ 2).trans rfl
    have kv3 : X.cell? ⟨cb, 3, none⟩ = some _ := (cell_of_heap c_ 3).trans rfl
    have kv4 : X.cell? ⟨cb, 4, none⟩ = some _ := (cell_of_heap c_ 4).trans rfl
    have kv5 : X.cell? ⟨cb, 5, none⟩ = some _ := (cell_of_heap c_ 5).trans rfl
    have kv6 : X.cell? ⟨cb, 6, none⟩ = some _ := (cell_of_heap c_ 6).trans rfl
    have kv7 : X.cell? ⟨cb, 7, none⟩ = some _ := (cell_of_heap c_ 7).trans rfl
    have zs := heap_lt s_
    have zc := heap_lt c_
    clear s_ c_
    clear kb OX hz2 hX q6 q7 f6 f7 zc
    go_wp2_with (first
      | (go_at_call 13; refine HK.out.1.mono ?_; rintro e w3 ⟨rfl, b3⟩; have H3 := Lib.hid (HK.out.2.trans (b3.mono HK.out.2.size)); clear b3 sv0 sv1 sv2 sv3 sv4 sv5 sv6 sv7 sv8 sv9 sv10 kv0 kv1 kv2 kv3 kv4 kv5 kv6 kv7 zs zc)
      | (go_at_call 10; refine (KW.out _).mono ?_; rintro e w5 ⟨rfl, b5⟩; have HWW := Lib.hid b5; clear b5))
    go_ret
    exact ⟨rfl, HO.out.2.2.2.2.trans ((H3.out.trans (HWW.out.mono H3.out.size)).mono HO.out.2.2.2.2.size)⟩
  · subst hk4
    go_wp2_with (go_at_call 10; refine (KW.out _).mono ?_; rintro e w5 ⟨rfl, b5⟩; have HWW := Lib.hid b5; clear b5)
    go_ret
    exact ⟨rfl, HO.out.2.2.2.2.trans ((H1.out.2.bel.trans (HWW.out.mono H1.out.2.lo)).mono HO.out.2.2.2.2.size)⟩
end Go.Proofs.YtalcinepeofmcaaDoor
