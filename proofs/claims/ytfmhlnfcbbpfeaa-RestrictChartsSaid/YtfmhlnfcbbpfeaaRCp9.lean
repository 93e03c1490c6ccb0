/- restrict.Witness, restrict.Shows -/
import Derived.Test.YtfmhlnfcbbpfeaaRCp8
import Derived.Test.YtfmhlnfcbbpfeaaRCp2
import Derived.Test.YtfmhlnfcbbpfeaaRCp6
set_option linter.unusedVariables false
namespace Go.Proofs.Ytfmhlnfcbbpfeaa
open Go Go.RowKit Sp

/-- the last days that show the step -/
def wit (p : Pol) (days kp : List Int) (day step : Int) : Nat → Option (Int × Int)
  | 0 => none
  | n + 1 => if showsS p days kp day step ((n : Int) - p.hold + 1) n then some ((n : Int) - p.hold + 1, (n : Int)) else wit p days kp day step n
theorem span_cells {w : World} {b : Nat} {x y : Value} {t : TypeId} (hh : w.heap[b]? = some (.cells #[x, y] t)) (u v : Value) : ((w.setCell ⟨b, 0, none⟩ u).setCell ⟨b, 1, none⟩ v).heap[b]? = some (.cells #[u, v] t) := heap_set (heap_set hh 0 u) 1 v

def witR (p : Pol) (days : List Int) (day : Int) : Int × (Int × Int) :=
  if startS p days ≠ 0 then (startS p days, 0, 0)
  else if !within day 0 ((days.length : Int) - 1) then (6, 0, 0)
  else if (decidedS p days).getD day.toNat 0 = 0 then ((4 : Int), (0 : Int), (0 : Int))
  else match wit p days (keptS p days) day ((decidedS p days).getD day.toNat 0) (day.toNat + 1) with
    | some s => (0, s)
    | none => (4, 0, 0)
theorem wit_start {p : Pol} {days : List Int} {day : Int} (h : startS p days ≠ 0) : witR p days day = (startS p days, 0, 0) := by unfold witR; rw [if_pos h]
theorem wit_day {p : Pol} {days : List Int} {day : Int} (h : startS p days = 0) (h1 : within day 0 ((days.length : Int) - 1) = false) : witR p days day = (6, 0, 0) := by unfold witR; rw [if_neg (fun f => f h), h1]; rfl
theorem wit_go {p : Pol} {days : List Int} {day : Int} (h : startS p days = 0) (h1 : within day 0 ((days.length : Int) - 1) = true) : witR p days day = if (decidedS p days).getD day.toNat 0 = 0 then ((4 : Int), (0 : Int), (0 : Int))
  else match wit p days (keptS p days) day ((decidedS p days).getD day.toNat 0) (day.toNat + 1) with
    | some s => (0, s)
    | none => (4, 0, 0) := by unfold witR; rw [if_neg (fun f => f h), h1]; rfl

def WitPost (w : World) (p : Pol) (days : List Int) (day : Int) (e : Ending) (w' : World) : Prop :=
  e = .returned (.tuple #[.agg #[.int .i64 (witR p days day).2.1, .int .i64 (witR p days day).2.2], .int .i64 (witR p days day).1]) ∧ Below w.heap.size w w'

structure WitS where
  g : Nat
  o : Nat
  c1 : Nat
  A2 : Option Addr
  c2 : Nat
  q2 : List Nat
set_option linter.unusedVariables false
def WtV (W0 : World) (pb : Nat) (A : Option Addr) (n c d j : Nat) (kp : List Int) (s : WitS) : Nat → Value → Prop
  | 0, v => v = .agg #[.pointer (some ⟨pb, 0, none⟩)]
  | 1, v => v = .slice A n c
  | 2, v => v = .slice (some ⟨s.g, s.o, none⟩) n s.c1
  | 3, v => v = .int .i64 d
  | 4, v => v = .pointer (some ⟨s.g, s.o + d, none⟩)
  | 5, v => v = .int .i64 j
  | 6, v => v = .agg #[.pointer (some ⟨pb, 0, none⟩)]
  | 7, v => v = .slice A n c
  | 8, v => v = .slice s.A2 n s.c2
  | 9, v => v = .int .i64 j
  | 10, v => v = .slice s.A2 n s.c2
  | _, _ => True
def WtW (W0 : World) (pb : Nat) (A : Option Addr) (n c d j : Nat) (kp : List Int) (s : WitS) (l : Nat → Bool) (w : World) : Prop := Below W0.heap.size W0 w ∧ (l 2 = true → w.cell? ⟨s.g, s.o + d, none⟩ = some (.int .i64 j)) ∧ (l 8 = true → OwnA w 3 s.A2 n s.c2 (ints kp) s.q2)

set_option maxRecDepth 100000 in
set_option maxHeartbeats 4000000 in
theorem Witness_any (As : Option Addr) (cs : Nat) (p : Pol) (A : Option Addr) (c : Nat) (days : List Int) (day : Int) (w : World) (hp : PolV w As cs p) (hr : Rd w 1 A days.length (ints days)) (hcc : days.length ≤ c ∧ c ≤ 9223372036854775807) :
    Calls Try.prog 18 #[.agg #[.slice As p.steps.length cs, .int .i64 p.hold, .int .i64 p.calm, .int .i64 p.notice, .int .i64 p.grace], .slice A days.length c, .int .i64 day] w (WitPost w p days day) := by
  have hm : days.length ≤ 9223372036854775807 := by omega
  obtain ⟨er, her⟩ : ∃ er, er = startS p days := ⟨_, rfl⟩
  have b0 : ∀ o o', Below w.heap.size w ((w.alloc o).alloc o') := fun o o' => ((Below.refl _ _).alloc (Nat.le_refl _) _).alloc (by simp) _
  have hst : Calls Try.prog 74 #[.agg #[.slice As p.steps.length cs, .int .i64 p.hold, .int .i64 p.calm, .int .i64 p.notice, .int .i64 p.grace], .slice A days.length c]
      ((w.alloc (.cells #[.slice As p.steps.length cs, .int .i64 p.hold, .int .i64 p.calm, .int .i64 p.notice, .int .i64 p.grace] 25)).alloc (.cells #[.int .i64 0, .int .i64 0] 42))
      fun e w1 => ∃ pp, e = .returned (.tuple #[.agg #[.pointer pp], .int .i64 er]) ∧ Below w.heap.size w w1 ∧ (er = 0 → ∃ pb, pp = some ⟨pb, 0, none⟩ ∧ PolAt w1 pb p) ∧
        w1.cell? ⟨w.heap.size + 1, 0, none⟩ = some (.int .i64 0) ∧ w1.cell? ⟨w.heap.size + 1, 1, none⟩ = some (.int .i64 0) ∧ w1.frozen? ⟨w.heap.size + 1, 0, none⟩ = false ∧ w1.frozen? ⟨w.heap.size + 1, 1, none⟩ = false ∧ w.heap.size + 1 < w1.heap.size ∧ w1.heap[w.heap.size + 1]? = some (.cells #[.int .i64 0, .int .i64 0] 42) := by
    refine (start_any As cs p A c days _ ⟨hp.1, hp.2.1, hp.2.2.below (b0 _ _)⟩ (hr.below (b0 _ _)) hm).mono ?_
    rintro e w1 ⟨pp, rfl, hB, h0, _⟩
    have hh : w1.heap[w.heap.size + 1]? = some (.cells #[.int .i64 0, .int .i64 0] 42) := by
      rw [hB.block _ (by simp)]
      have := heap_alloc_new (w.alloc (.cells #[.slice As p.steps.length cs, .int .i64 p.hold, .int .i64 p.calm, .int .i64 p.notice, .int .i64 p.grace] 25)) (.cells #[.int .i64 0, .int .i64 0] 42)
      rw [World.size_alloc] at this
      exact this
    exact ⟨pp, by rw [her], (b0 _ _).trans (hB.mono (by simp; omega)), fun h => h0 (her.symm.trans h), (cell_of_heap hh 0).trans rfl, (cell_of_heap hh 1).trans rfl, frozen_of_heap hh 0, frozen_of_heap hh 1, by have := hB.size; simp at this; omega, hh⟩
  have HP := Lib.hid (And.intro her (And.intro hr hst))
  clear her hst b0 hr hp
  by_cases h0 : er = 0
  · subst h0
    have hs0 : startS p days = 0 := HP.out.1.symm
    obtain ⟨hck, hl4, _⟩ := start_ok hs0
    have HC := Lib.hid (check_ok hck)
    have hne : ((0 : Int) != 0) = false := rfl
    have HK := Lib.hid hs0
    clear hs0 hck
    obtain ⟨dr, hdr⟩ : ∃ dr, dr = within day 0 ((days.length : Int) - 1) := ⟨_, rfl⟩
    have hin : ∀ wx, Calls Try.prog 76 #[.int .i64 day, .int .i64 0, .int .i64 ((days.length : Int) - 1)] wx fun e w' => e = .returned (.bool dr) ∧ wx = w' := fun wx => by rw [hdr]; exact within_any day 0 _ wx
    have HD := Lib.hid (And.intro hdr hin)
    clear hdr hin
    cases dr
    · go_enter Try.func18, Try.ntmps18
      go_wp2_with fail
      refine HP.out.2.2.mono ?_
      rintro e w1 ⟨pp, rfl, hB, _, f1, f2, f3, f4, z1, hh⟩
      have HB := Lib.hid hB
      clear hB
      go_wp2_with (go_at_call 76; refine (HD.out.2 _).mono ?_; rintro e w2 ⟨rfl, rfl⟩)
      have k0 := fun o => cell_of_heap (heap_alloc' (span_cells hh (.int .i64 0) (.int .i64 0)) o) 0
      have k1 := fun o => cell_of_heap (heap_alloc' (span_cells hh (.int .i64 0) (.int .i64 0)) o) 1
      refine bodyPost_ret (v := .tuple #[.agg #[.int .i64 0, .int .i64 0], .int .i64 6]) (by simp [results, Try.results18, go_sem, k0, k1]) rfl ?_
      refine ⟨by rw [wit_day HK.out HD.out.1.symm], ?_⟩
      exact ((HB.out.setCell (by simp) _).setCell (by simp) _).alloc (by simpa using HB.out.size) _
    · have hlt : 0 ≤ day ∧ day < days.length := by have := HD.out.1; simp [within] at this; omega
      obtain ⟨d, rfl⟩ : ∃ k : Nat, day = k := ⟨day.toNat, by omega⟩
      have hdl : d < days.length := by omega
      have hdI : (0 : Int) ≤ (d : Int) ∧ (d : Int) < (days.length : Int) := hlt
      clear hlt
      go_enter Try.func18, Try.ntmps18
      go_wp2_with fail
      refine HP.out.2.2.mono ?_
      rintro e w1 ⟨pp, rfl, hB, h0, f1, f2, f3, f4, z1, hh⟩
      obtain ⟨pb, rfl, hpol⟩ := h0 trivial
      obtain ⟨W, hW⟩ : ∃ W, W = w1.alloc (.cells #[.pointer (some ⟨pb, 0, none⟩)] 143) := ⟨_, rfl⟩
      have e8 : W.cell? ⟨w1.heap.size, 0, none⟩ = some (.pointer (some ⟨pb, 0, none⟩)) := by rw [hW]; exact cell_new_one _ _ _
      have bW : Below w.heap.size w W := by rw [hW]; exact hB.alloc hB.size _
      have pW : PolAt W pb p := by rw [hW]; exact hpol.below ((Below.refl _ _).alloc (Nat.le_refl _) _)
      have zW : w1.heap.size < W.heap.size := by rw [hW]; simp
      have hhW : W.heap[w.heap.size + 1]? = some (.cells #[.int .i64 0, .int .i64 0] 42) := by rw [hW]; exact heap_alloc' hh _
      clear hB h0 f1 f2 f3 f4 hpol hh
      go_upto_region 6 with (go_at_call 76; refine (HD.out.2 _).mono ?_; rintro e w2 ⟨rfl, rfl⟩)
      rw [← hW]
      generalize hs1 : w1.heap.size = s1 at e8 zW ⊢
      have HW := Lib.hid (And.intro bW (And.intro pW (And.intro (HP.out.2.1.below bW) hhW)))
      have z1' : w.heap.size + 1 < s1 := by omega
      clear hW bW pW hhW HP hs1 z1
      obtain ⟨j, hj⟩ : ∃ j : Nat, (decidedS p days).getD d 0 = (j : Int) := ⟨((decidedS p days).getD d 0).toNat, by have := getD_all (decidedS_range HC.out.1 days) (isStep_zero HC.out.1) d; have := this.1; omega⟩
      have hjl : j < p.steps.length := by have := getD_all (decidedS_range HC.out.1 days) (isStep_zero HC.out.1) d; rw [hj] at this; have := this.2; omega
      have HJ := Lib.hid (And.intro hj hjl)
      clear hj hjl
      refine wp_region_steps (σ := WitS) (by kernel_rfl) (by kernel_rfl) (fun sg jx vx _ => WtV W pb A days.length c d j (keptS p days) sg jx vx) (fun sg ly wx => WtW W pb A days.length c d j (keptS p days) sg ly wx) ⟨0, 0, 0, none, 0, []⟩ ?_ ?_ ?_
      · exact ⟨(Below.refl _ _).drew, fun h => by simp at h, fun h => by simp at h⟩
      · simp only [AllFrom, Nat.zero_add, Nat.reduceAdd]
        refine ⟨?_, ?_, ?_, ?_, ?_, ?_, ?_, ?_, ?_, ?_, ?_, trivial⟩
        · refine step_pure fun sg ly a wr hl hd hW hF => ?_
          have et8 := hF.old 8 (by kernel_rfl)
          simp [Act.eval] at et8
          have c8 := (hW.1.cell (p := ⟨s1, 0, none⟩) zW).trans e8
          exact ⟨by simpa [WtW, upd] using hW, .agg #[.pointer (some ⟨pb, 0, none⟩)], by go_simp, rfl⟩
        · refine step_pure fun sg ly a wr hl hd hW hF => ?_
          have et1 := hF.old 1 (by kernel_rfl)
          simp [Act.eval] at et1
          exact ⟨by simpa [WtW, upd] using hW, .slice A days.length c, by go_simp, rfl⟩
        · refine step_call fun sg ly a wr hl hd hW hF => ?_
          simp [Region.binds] at hd
          have et33 := hF.new 0 33 (by simp [hd]) rfl
          simp [WtV, Act.eval] at et33
          have et34 := hF.new 1 34 (by simp [hd]) rfl
          simp [WtV, Act.eval] at et34
          have n4 := hF.notYet 2 4 hl (by kernel_rfl)
          refine ⟨83, #[.agg #[.pointer (some ⟨pb, 0, none⟩)], .slice A days.length c], by go_simp, ?_⟩
          refine (decided_any pb p A c days wr (HW.out.2.1.below hW.1) ⟨HC.out.2.2.1, by have := HC.out.2.2.2.1; omega⟩ ⟨HC.out.2.2.2.2.1, by have := HC.out.2.2.2.2.2.1; omega⟩ (HW.out.2.2.1.below hW.1) (by omega)).mono ?_
          rintro e w2 ⟨A1, c1, q1, rfl, o1, n1, b1⟩
          obtain ⟨g1, o1', rfl, _, _, hc1, _⟩ := o1.some_ (by omega)
          have c1d := hc1 d (.int .i64 j) (by rw [← HJ.out.1]; exact ints_get (by rw [decidedS_length]; exact hdl))
          refine ⟨_, { sg with g := g1, o := o1', c1 := c1 }, rfl, ⟨hW.1.trans (b1.mono hW.1.size), fun _ => c1d, fun h8 => (hW.2.2 (by simpa [upd] using h8)).keepS (Keep.of_below (S := []) b1) (by simp)⟩, rfl, ?_⟩
          intro i u hi h
          have i2 : i ≠ 2 := by rintro rfl; rw [hl] at hi; cases hi
          have i4 : i ≠ 4 := by rintro rfl; rw [n4] at hi; cases hi
          unfold WtV at h ⊢
          split at h <;> first | exact h | exact absurd rfl i2 | exact absurd rfl i4
        · refine step_pure fun sg ly a wr hl hd hW hF => ?_
          have et2 := hF.old 2 (by kernel_rfl)
          simp [Act.eval] at et2
          exact ⟨by simpa [WtW, upd] using hW, .int .i64 d, by go_simp, rfl⟩
        · refine step_pure fun sg ly a wr hl hd hW hF => ?_
          simp [Region.binds] at hd
          have et35 := hF.new 2 35 (by simp [hd]) rfl
          simp [WtV, Act.eval] at et35
          have et36 := hF.new 3 36 (by simp [hd]) rfl
          simp [WtV, Act.eval] at et36
          exact ⟨by simpa [WtW, upd] using hW, .pointer (some ⟨sg.g, sg.o + d, none⟩), by go_simp, rfl⟩
        · refine step_pure fun sg ly a wr hl hd hW hF => ?_
          simp [Region.binds] at hd
          have et37 := hF.new 4 37 (by simp [hd]) rfl
          simp [WtV, Act.eval] at et37
          have y2 := hF.before 2 4 (by simp [hd]) (by kernel_rfl)
          have c1d := hW.2.1 y2
          exact ⟨by simpa [WtW, upd] using hW, .int .i64 j, by go_simp, rfl⟩
        · refine step_pure fun sg ly a wr hl hd hW hF => ?_
          have et8 := hF.old 8 (by kernel_rfl)
          simp [Act.eval] at et8
          have c8 := (hW.1.cell (p := ⟨s1, 0, none⟩) zW).trans e8
          exact ⟨by simpa [WtW, upd] using hW, .agg #[.pointer (some ⟨pb, 0, none⟩)], by go_simp, rfl⟩
        · refine step_pure fun sg ly a wr hl hd hW hF => ?_
          have et1 := hF.old 1 (by kernel_rfl)
          simp [Act.eval] at et1
          exact ⟨by simpa [WtW, upd] using hW, .slice A days.length c, by go_simp, rfl⟩
        · refine step_call fun sg ly a wr hl hd hW hF => ?_
          simp [Region.binds] at hd
          have et39 := hF.new 6 39 (by simp [hd]) rfl
          simp [WtV, Act.eval] at et39
          have et40 := hF.new 7 40 (by simp [hd]) rfl
          simp [WtV, Act.eval] at et40
          have n10 := hF.notYet 8 10 hl (by kernel_rfl)
          refine ⟨84, #[.agg #[.pointer (some ⟨pb, 0, none⟩)], .slice A days.length c], by go_simp, ?_⟩
          refine (kept_any pb p A c days wr (HW.out.2.1.below hW.1) ⟨HC.out.2.2.2.2.1, by have := HC.out.2.2.2.2.2.1; omega⟩ (HW.out.2.2.1.below hW.1) (by omega)).mono ?_
          rintro e w3 ⟨A2, c2, q2, rfl, o2, n2, b2⟩
          refine ⟨_, { sg with A2 := A2, c2 := c2, q2 := q2 }, rfl, ⟨hW.1.trans (b2.mono hW.1.size), fun h2 => (b2.cell (World.block_lt_of_cell? _ _ (hW.2.1 (by simpa [upd] using h2)))).trans (hW.2.1 (by simpa [upd] using h2)), fun _ => o2⟩, rfl, ?_⟩
          intro i u hi h
          have i8 : i ≠ 8 := by rintro rfl; rw [hl] at hi; cases hi
          have i10 : i ≠ 10 := by rintro rfl; rw [n10] at hi; cases hi
          unfold WtV at h ⊢
          split at h <;> first | exact h | exact absurd rfl i8 | exact absurd rfl i10
        · refine step_pure fun sg ly a wr hl hd hW hF => ?_
          simp [Region.binds] at hd
          have et38 := hF.new 5 38 (by simp [hd]) rfl
          simp [WtV, Act.eval] at et38
          exact ⟨by simpa [WtW, upd] using hW, .int .i64 j, by go_simp, rfl⟩
        · refine step_pure fun sg ly a wr hl hd hW hF => ?_
          simp [Region.binds] at hd
          have et41 := hF.new 8 41 (by simp [hd]) rfl
          simp [WtV, Act.eval] at et41
          exact ⟨by simpa [WtW, upd] using hW, .slice sg.A2 days.length sg.c2, by go_simp, rfl⟩
      intro sg a w3 hW hF
      have v10 := hF.new 9 10 rfl rfl
      have v11 := hF.new 10 11 rfl rfl
      simp only [WtV] at v10 v11
      obtain ⟨f, hf, rfl⟩ := hF.lit
      have f10 := (hf 10).trans v10
      have f11 := (hf 11).trans v11
      obtain ⟨b3, _, hown⟩ := hW
      have o2 := hown rfl
      obtain ⟨A2, hA2⟩ : ∃ A2, A2 = sg.A2 := ⟨_, rfl⟩
      obtain ⟨c2, hc2⟩ : ∃ c2, c2 = sg.c2 := ⟨_, rfl⟩
      rw [← hA2, ← hc2] at o2 f11
      have e83 : w3.cell? ⟨s1, 0, none⟩ = some (.pointer (some ⟨pb, 0, none⟩)) := (b3.cell (p := ⟨s1, 0, none⟩) zW).trans e8
      simp only [List.filterMap, List.foldl, List.setIfInBounds_toArray, List.set_cons_succ, List.set_cons_zero]
      rw [f10, f11]
      have B2 := Lib.hid o2
      clear hf hF v10 v11 f10 f11 hA2 hc2 o2 hown
      all_goals
        have hh3 : w3.heap[w.heap.size + 1]? = some (.cells #[.int .i64 0, .int .i64 0] 42) := (b3.block _ (by omega)).trans HW.out.2.2.2
        have p3 : PolAt w3 pb p := HW.out.2.1.below b3
        have r3 : Rd w3 1 A days.length (ints days) := HW.out.2.2.1.below b3
        have bw3 : Below w.heap.size w w3 := HW.out.1.trans (b3.mono HW.out.1.size)
        have z3 : s1 < w3.heap.size := Nat.lt_of_lt_of_le zW b3.size
        have H3 := Lib.hid (And.intro hh3 (And.intro p3 (And.intro r3 (And.intro bw3 B2.out))))
        clear b3 p3 r3 bw3 B2 e8 HW zW
        by_cases hj0 : j = 0
        · subst hj0
          have f3 := frozen_of_heap hh3 0
          have f4 := frozen_of_heap hh3 1
          have f1 : w3.cell? ⟨w.heap.size + 1, 0, none⟩ = some (.int .i64 0) := (cell_of_heap hh3 0).trans rfl
          have f2 : w3.cell? ⟨w.heap.size + 1, 1, none⟩ = some (.int .i64 0) := (cell_of_heap hh3 1).trans rfl
          clear hh3
          go_wp2_with fail
          have k0 := cell_of_heap (span_cells H3.out.1 (.int .i64 0) (.int .i64 0)) 0
          have k1 := cell_of_heap (span_cells H3.out.1 (.int .i64 0) (.int .i64 0)) 1
          refine bodyPost_ret (v := .tuple #[.agg #[.int .i64 0, .int .i64 0], .int .i64 4]) (by simp [results, Try.results18, go_sem, k0, k1]) rfl ?_
          refine ⟨by rw [wit_go HK.out HD.out.1.symm, Int.toNat_natCast, HJ.out.1]; rfl, ?_⟩
          exact (H3.out.2.2.2.1.setCell (by simp) _).setCell (by simp) _
        · have hj1 : ((j : Int) == 0) = false := by simp; omega
          clear hh3
          obtain ⟨h, hh1⟩ : ∃ h, h = p.hold := ⟨_, rfl⟩
          have hhb : 1 ≤ h ∧ h ≤ 30 := by rw [hh1]; exact ⟨HC.out.2.2.1, HC.out.2.2.2.1⟩
          have g1' : w3.cell? ⟨pb, 1, none⟩ = some (.int .i64 h) := by obtain ⟨Ap, cp, hh, _⟩ := H3.out.2.1; rw [cell_of_heap hh, hh1]; rfl
          have zp : pb < w3.heap.size := by obtain ⟨Ap, cp, hh, _⟩ := H3.out.2.1; exact heap_lt hh
          have HH := Lib.hid hh1
          clear hh1
          go_wp2_with fail
          go_loopg [12] (d + 1) (fun g l wr => ∃ v : Int, l = .int .i64 v ∧ v = (g : Int) - 1 ∧ g ≤ d + 1 ∧ wit p days (keptS p days) d j (d + 1) = wit p days (keptS p days) d j g ∧ Below w3.heap.size w3 wr)
          case atStart => exact ⟨d, rfl, by omega, by omega, rfl, Below.refl _ _⟩
          case round =>
            obtain ⟨v, rfl, hv, hgd, hwt, hB⟩ := hrel
            have hsz := hB.size
            have zz : w.heap.size + 1 < wr.heap.size := by omega
            have HB := Lib.hid (And.intro hwt hB)
            clear hwt hB
            cases gk with
            | zero =>
              obtain rfl : v = -1 := by omega
              clear hv hgd
              have hh4 : wr.heap[w.heap.size + 1]? = some (.cells #[.int .i64 0, .int .i64 0] 42) := (HB.out.2.block _ (by omega)).trans H3.out.1
              have f3 := frozen_of_heap hh4 0
              have f4 := frozen_of_heap hh4 1
              have f1 : wr.cell? ⟨w.heap.size + 1, 0, none⟩ = some (.int .i64 0) := (cell_of_heap hh4 0).trans rfl
              have f2 : wr.cell? ⟨w.heap.size + 1, 1, none⟩ = some (.int .i64 0) := (cell_of_heap hh4 1).trans rfl
              have k0 := cell_of_heap (span_cells hh4 (.int .i64 0) (.int .i64 0)) 0
              have k1 := cell_of_heap (span_cells hh4 (.int .i64 0) (.int .i64 0)) 1
              have HK0 := Lib.hid (And.intro k0 k1)
              clear hh4 k0 k1
              go_wp2_with fail
              have k0 := HK0.out.1
              have k1 := HK0.out.2
              refine bodyPost_ret (v := .tuple #[.agg #[.int .i64 0, .int .i64 0], .int .i64 4]) (by simp [results, Try.results18, go_sem, k0, k1]) rfl ?_
              refine ⟨by rw [wit_go HK.out HD.out.1.symm, Int.toNat_natCast, HJ.out.1, if_neg (by omega), HB.out.1]; rfl, ?_⟩
              exact ((H3.out.2.2.2.1.trans (HB.out.2.mono H3.out.2.2.2.1.size)).setCell (by simp) _).setCell (by simp) _
            | succ n =>
              obtain rfl : v = (n : Int) := by omega
              have c1 := (HB.out.2.cell (p := ⟨s1, 0, none⟩) z3).trans e83
              have c2' := (HB.out.2.cell (p := ⟨pb, 1, none⟩) zp).trans g1'
              clear hv
              have zs : s1 < wr.heap.size := by omega
              have hnd : (0 : Int) ≤ (n : Int) ∧ (n : Int) ≤ 400 := by omega
              obtain ⟨r, hr⟩ : ∃ r, r = showsS p days (keptS p days) d j ((n : Int) - h + 1) n := ⟨_, rfl⟩
              have hsh : Calls Try.prog 85 #[.agg #[.pointer (some ⟨pb, 0, none⟩)], .slice A days.length c, .slice A2 days.length c2, .int .i64 d, .int .i64 j, .agg #[.int .i64 ((n : Int) - h + 1), .int .i64 n]] (wr.alloc (.cells #[.int .i64 ((n : Int) - h + 1), .int .i64 n] 42))
                  fun e w' => e = .returned (.bool r) ∧ Below wr.heap.size wr w' ∧ w'.cell? ⟨wr.heap.size, 0, none⟩ = some (.int .i64 ((n : Int) - h + 1)) ∧ w'.cell? ⟨wr.heap.size, 1, none⟩ = some (.int .i64 n) ∧ w'.cell? ⟨w.heap.size + 1, 0, none⟩ = some (.int .i64 0) ∧ w'.cell? ⟨w.heap.size + 1, 1, none⟩ = some (.int .i64 0) ∧ w'.frozen? ⟨w.heap.size + 1, 0, none⟩ = false ∧ w'.frozen? ⟨w.heap.size + 1, 1, none⟩ = false ∧ w'.heap[w.heap.size + 1]? = some (.cells #[.int .i64 0, .int .i64 0] 42) := by
                have bk : Below w3.heap.size w3 (wr.alloc (.cells #[.int .i64 ((n : Int) - h + 1), .int .i64 n] 42)) := HB.out.2.alloc hsz _
                refine (shows_any pb p A c days A2 c2 (keptS p days) d j ((n : Int) - h + 1) n _ (H3.out.2.1.below bk) ⟨HC.out.2.2.1, by have := HC.out.2.2.2.1; omega⟩ (H3.out.2.2.1.below bk) hcc (H3.out.2.2.2.2.rd.below bk) ⟨H3.out.2.2.2.2.ge, H3.out.2.2.2.2.cap⟩ (by omega) hdl HJ.out.2 (by omega)).mono ?_
                rintro e w4 ⟨rfl, b4⟩
                have bb : Below wr.heap.size wr w4 := ((Below.refl _ _).alloc (Nat.le_refl _) _).trans (b4.mono (by simp))
                have hh4 : w4.heap[w.heap.size + 1]? = some (.cells #[.int .i64 0, .int .i64 0] 42) := (bb.block _ (by omega)).trans ((HB.out.2.block _ (by omega)).trans H3.out.1)
                refine ⟨by rw [hr], bb, ?_, ?_, (cell_of_heap hh4 0).trans rfl, (cell_of_heap hh4 1).trans rfl, frozen_of_heap hh4 0, frozen_of_heap hh4 1, hh4⟩
                · rw [b4.cell (p := ⟨wr.heap.size, 0, none⟩) (by simp), World.cell?_alloc_new]; rfl
                · rw [b4.cell (p := ⟨wr.heap.size, 1, none⟩) (by simp), World.cell?_alloc_new]; rfl
              have HS := Lib.hid (And.intro hr hsh)
              clear hr hsh
              cases r
              · go_wp2_with (go_at_call 85; refine HS.out.2.mono ?_; rintro e w4 ⟨rfl, b4, _⟩; have HB4 := Lib.hid b4; clear b4)
                go_roundg n
                case measure => omega
                case rel =>
                  refine ⟨(n : Int) - 1, by go_num, rfl, by omega, ?_, HB.out.2.trans (HB4.out.mono hsz)⟩
                  rw [HB.out.1, wit, ← HH.out, ← HS.out.1]; rfl
              · go_wp2_with (go_at_call 85; refine HS.out.2.mono ?_; rintro e w4 ⟨rfl, b4, m0, m1, f1, f2, f3, f4, hh4⟩; have HB4 := Lib.hid (And.intro b4 hh4); clear b4 hh4)
                have k0 := cell_of_heap (span_cells HB4.out.2 (.int .i64 ((n : Int) - h + 1)) (.int .i64 n)) 0
                have k1 := cell_of_heap (span_cells HB4.out.2 (.int .i64 ((n : Int) - h + 1)) (.int .i64 n)) 1
                refine bodyPost_ret (v := .tuple #[.agg #[.int .i64 ((n : Int) - h + 1), .int .i64 n], .int .i64 0]) (by simp [results, Try.results18, go_sem, k0, k1]) rfl ?_
                refine ⟨by rw [wit_go HK.out HD.out.1.symm, Int.toNat_natCast, HJ.out.1, if_neg (by omega), HB.out.1, wit, ← HH.out, ← HS.out.1]; rfl, ?_⟩
                exact ((H3.out.2.2.2.1.trans ((HB.out.2.trans (HB4.out.1.mono hsz)).mono H3.out.2.2.2.1.size)).setCell (by simp) _).setCell (by simp) _
  · have hne : (er != 0) = true := by simp [h0]
    have hs0 : startS p days ≠ 0 := fun h => h0 (HP.out.1.trans h)
    have HK := Lib.hid (And.intro hs0 h0)
    clear hs0 h0
    go_enter Try.func18, Try.ntmps18
    go_wp2_with fail
    refine HP.out.2.2.mono ?_
    rintro e w1 ⟨pp, rfl, hB, _, f1, f2, f3, f4, z1, hh⟩
    have HB := Lib.hid hB
    clear hB
    go_wp2_with fail
    have k0 := fun o => cell_of_heap (heap_alloc' (span_cells hh (.int .i64 0) (.int .i64 0)) o) 0
    have k1 := fun o => cell_of_heap (heap_alloc' (span_cells hh (.int .i64 0) (.int .i64 0)) o) 1
    refine bodyPost_ret (v := .tuple #[.agg #[.int .i64 0, .int .i64 0], .int .i64 er]) (by simp [results, Try.results18, go_sem, k0, k1]) rfl ?_
    refine ⟨by rw [wit_start HK.out.1, ← HP.out.1], ?_⟩
    exact ((HB.out.setCell (by simp) _).setCell (by simp) _).alloc (by simpa using HB.out.size) _
end Go.Proofs.Ytfmhlnfcbbpfeaa
/- restrict.Windows: its closure -/
namespace Go.Proofs.Ytfmhlnfcbbpfeaa
open Go Go.RowKit Sp

def spc (s : Int × Int) : List Value := [.int .i64 s.1, .int .i64 s.2]
def spcs (l : List (Int × Int)) : List Value := l.flatMap spc
theorem spcs_length (l : List (Int × Int)) : (spcs l).length = l.length * 2 := by
  induction l with
  | nil => rfl
  | cons s l ih => simp only [spcs, List.flatMap_cons, List.length_append, List.length_cons] at ih ⊢; rw [ih]; simp [spc]; omega
theorem spcs_append (l m : List (Int × Int)) : spcs (l ++ m) = spcs l ++ spcs m := by simp [spcs]
theorem spcs_get {l : List (Int × Int)} {k : Nat} (hk : k < l.length) : (spcs l)[k*2]? = some (.int .i64 l[k].1) ∧ (spcs l)[k*2+1]? = some (.int .i64 l[k].2) := by
  induction l generalizing k with
  | nil => simp at hk
  | cons s l ih =>
    cases k with
    | zero => simp [spcs, spc]
    | succ k =>
      have h4 : ∀ j, (spcs (s :: l))[2 + j]? = (spcs l)[j]? := fun j => by
        simp only [spcs, List.flatMap_cons, spc]
        rw [List.getElem?_append_right (by simp)]
        simp
      have e : ∀ j, (k+1)*2 + j = 2 + (k*2 + j) := fun j => by omega
      have e0 : (k+1)*2 = 2 + k*2 := by omega
      have hk' : k < l.length := by simpa using hk
      rw [e, e0, h4, h4]
      simpa using ih hk'

/-- a window that begins, or goes on, on the day -/
def joinS (L : List (Int × Int)) (day : Int) : List (Int × Int) :=
  match L.getLast? with
  | some s => if s.2 = day - 1 then L.dropLast ++ [(s.1, day)] else L ++ [(day, day)]
  | none => [(day, day)]

/-- the cell cb holds the windows L -/
def SpansIn (w : World) (cb : Nat) (L : List (Int × Int)) (fp : List Nat) : Prop :=
  ∃ A c, w.heap[cb]? = some (.cells #[.slice A L.length c] 61 (0, 0)) ∧ OwnS w 42 2 A L.length c (spcs L) fp ∧ cb ∉ fp

theorem info_span : (Try.prog.info? 42).map (fun i => (i.zero, i.size, i.bytes)) = some (some (.agg #[.int .i64 0, .int .i64 0]), 2, 16) := by kernel_rfl

def JoinPost (w : World) (cb : Nat) (L : List (Int × Int)) (day : Int) (fp : List Nat) (e : Ending) (w' : World) : Prop :=
  e = .returned (.tuple #[]) ∧ ∃ fp', SpansIn w' cb (joinS L day) fp' ∧ (∀ g ∈ fp', g ∈ fp ∨ w.heap.size ≤ g) ∧ Keep (cb :: fp) w w'

set_option maxRecDepth 100000 in
set_option maxHeartbeats 2000000 in
theorem join_any (cb : Nat) (L : List (Int × Int)) (fp : List Nat) (d : Nat) (w : World) (hs : SpansIn w cb L fp) (hl : L.length ≤ 100000) (hd : d ≤ 100000) :
    Calls Try.prog 91 #[.int .i64 d, .pointer (some ⟨cb, 0, none⟩)] w (JoinPost w cb L d fp) := by
  obtain ⟨i0, hi, hz0, hz1, hz2⟩ := info_parts info_span
  obtain ⟨A, c, hh, hown, hnc⟩ := hs
  have c0 : w.cell? ⟨cb, 0, none⟩ = some (.slice A L.length c) := (cell_of_heap hh 0).trans rfl
  have z0 := heap_lt hh
  have fr := frozen_of_heap hh 0
  rcases List.eq_nil_or_concat L with rfl | ⟨L', s, rfl⟩
  · have HS := Lib.hid (And.intro hh (And.intro hown hnc))
    have hgn : ¬ (cb ∈ fp ∨ (w.alloc (.cells #[.int .i64 d, .int .i64 d] 42)).heap.size = cb) := by simp; exact ⟨hnc, by omega⟩
    clear hh hown hnc
    simp only [List.length_nil] at c0
    go_enter Try.func91, Try.ntmps91
    go_wp2_with (at_builtin
                 refine wpList_append_S (size := 2) rfl (.tmp 24) (.tmp 28) 61 rfl i0 _ 16 Try.underlying61 hi hz0 hz1 (by decide) hz2 rfl (A := A) (n := 0) (c := c) (xs := []) (fp := fp) (by simp [Act.eval]) ⟨w.heap.size, 0, none⟩ (by simp [Act.eval]) [.int .i64 d, .int .i64 d] (HS.out.2.1.alloc _) rfl ?_ (by simp [Value.oneCell']) (by omega) (by omega) ?_
                 · intro j v hv
                   rw [show (⟨w.heap.size, 0, none⟩ : Addr).add j = ⟨w.heap.size, j, none⟩ from by simp [Addr.add]; omega, World.cell?_alloc_new]
                   simpa using hv
                 intro g c' w1 h1 h2 h3 h4
                 have hb1 : w1.heap[cb]? = some (.cells #[.slice A 0 c] 61 (0, 0)) := (h4.block cb (by simp; omega) HS.out.2.2).trans (heap_alloc' HS.out.1 _)
                 have d0 : w1.cell? ⟨cb, 0, none⟩ = some (.slice A 0 c) := (cell_of_heap hb1 0).trans rfl
                 have d1 := frozen_of_heap hb1 0
                 have HQ := Lib.hid (And.intro h1 (And.intro h2 (And.intro h4 hb1)))
                 clear h1 h2 h3 h4 hb1)
    go_end0
    refine ⟨rfl, [g], ⟨_, c', heap_set HQ.out.2.2.2 0 _, HQ.out.1.setCell (by simp; rintro rfl; exact hgn HQ.out.2.1) _, by simp; rintro rfl; exact hgn HQ.out.2.1⟩, ?_, ?_⟩
    · intro y hy
      rw [List.mem_singleton.1 hy]
      exact HQ.out.2.1.imp id (fun h => by simp at h; omega)
    · exact (((Keep.refl (cb :: fp) w).alloc _).trans HQ.out.2.2.1 (fun y hy => .inl (by simp [hy]))).setCell (.inl (by simp)) _
  · obtain ⟨n, hn⟩ : ∃ n, n = L'.length := ⟨_, rfl⟩
    have hn1 : (L' ++ [s]).length = n + 1 := by simp [hn]
    rw [List.concat_eq_append] at *
    rw [hn1] at c0 hh hown hl
    obtain ⟨g0, rfl, rfl, zg, hc, hf⟩ := hown.some_ (by omega)
    have hsp : spcs (L' ++ [s]) = spcs L' ++ spc s := by simp [spcs]
    have hlen := spcs_length L'
    rw [← hn] at hlen
    have c1 : w.cell? ⟨g0, n * 2 + 1, none⟩ = some (.int .i64 s.2) := hc _ _ (by rw [hsp, List.getElem?_append_right (by omega), hlen]; simp [spc])
    have f1 := hf (n * 2 + 1)
    have hnI : (0 : Int) ≤ (n : Int) ∧ (n : Int) ≤ 100000 := by omega
    have hgn : g0 ≠ cb := fun e => hnc (by simp [e])
    obtain ⟨x, hx⟩ : ∃ x, x = s.2 := ⟨_, rfl⟩
    rw [← hx] at c1
    have HS := Lib.hid (And.intro hh (And.intro hown (And.intro hnc (And.intro hsp (And.intro hlen (And.intro hn hx))))))
    clear hh hown hnc hsp hlen hn hx hc hf hn1
    by_cases hxd : x = (d : Int) - 1
    · have hxb : (x == (d : Int) - 1) = true := by simp [hxd]
      go_enter Try.func91, Try.ntmps91
      go_wp2_with fail
      go_end0
      have hj : joinS (L' ++ [s]) (d : Int) = L' ++ [(s.1, (d : Int))] := by simp [joinS, ← HS.out.2.2.2.2.2.2, hxd]
      have hl2 : (L' ++ [(s.1, (d : Int))]).length = n + 1 := by simp [HS.out.2.2.2.2.2.1]
      refine ⟨rfl, [g0], ?_, fun y hy => .inl hy, (Keep.refl _ _).setCell (.inl (by simp)) _⟩
      rw [hj]
      refine ⟨some ⟨g0, 0, none⟩, c, ?_, ?_, HS.out.2.2.1⟩
      · rw [hl2]; exact heap_set_ne HS.out.1 (p := ⟨g0, n * 2 + 1, none⟩) (fun e => hgn e.symm) _
      · rw [hl2]
        have h5 := HS.out.2.1.set_ (n * 2 + 1) (.int .i64 d)
        have h6 : (spcs (L' ++ [s])).set (n * 2 + 1) (.int .i64 d) = spcs (L' ++ [(s.1, (d : Int))]) := by
          rw [HS.out.2.2.2.1, spcs_append, List.set_append_right _ _ (by have := HS.out.2.2.2.2.1; omega), HS.out.2.2.2.2.1]
          simp [spc, spcs]
        rwa [h6] at h5
    · have hxb : (x == (d : Int) - 1) = false := by simp [hxd]
      go_enter Try.func91, Try.ntmps91
      go_wp2_with (at_builtin
                   refine wpList_append_S (size := 2) rfl (.tmp 24) (.tmp 28) 61 rfl i0 _ 16 Try.underlying61 hi hz0 hz1 (by decide) hz2 rfl (A := some ⟨g0, 0, none⟩) (n := n + 1) (c := c) (xs := spcs (L' ++ [s])) (fp := [g0]) (by simp [Act.eval]) ⟨w.heap.size, 0, none⟩ (by simp [Act.eval]) [.int .i64 d, .int .i64 d] (HS.out.2.1.alloc _) rfl ?_ (by simp [Value.oneCell']) (by omega) (by omega) ?_
                   · intro j v hv
                     rw [show (⟨w.heap.size, 0, none⟩ : Addr).add j = ⟨w.heap.size, j, none⟩ from by simp [Addr.add]; omega, World.cell?_alloc_new]
                     simpa using hv
                   intro g c' w1 h1 h2 h3 h4
                   have hb1 : w1.heap[cb]? = some (.cells #[.slice (some ⟨g0, 0, none⟩) (n + 1) c] 61 (0, 0)) := (h4.block cb (by simp; omega) HS.out.2.2.1).trans (heap_alloc' HS.out.1 _)
                   have d0 : w1.cell? ⟨cb, 0, none⟩ = some (.slice (some ⟨g0, 0, none⟩) (n + 1) c) := (cell_of_heap hb1 0).trans rfl
                   have d1 := frozen_of_heap hb1 0
                   have HQ := Lib.hid (And.intro h1 (And.intro h2 (And.intro h4 hb1)))
                   clear h1 h2 h3 h4 hb1)
      go_end0
      have hgc : ¬ (cb ∈ [g0] ∨ (w.alloc (.cells #[.int .i64 d, .int .i64 d] 42)).heap.size = cb) := by simp; exact ⟨fun e => hgn e.symm, by omega⟩
      have hj : joinS (L' ++ [s]) (d : Int) = (L' ++ [s]) ++ [((d : Int), (d : Int))] := by
        simp only [joinS, List.getLast?_append, List.getLast?_singleton, Option.some_or]
        rw [if_neg (by rw [← HS.out.2.2.2.2.2.2]; exact hxd)]
      have hl2 : ((L' ++ [s]) ++ [((d : Int), (d : Int))]).length = n + 1 + 1 := by simp [HS.out.2.2.2.2.2.1]
      refine ⟨rfl, [g], ?_, ?_, ?_⟩
      · rw [hj]
        refine ⟨some ⟨g, 0, none⟩, c', ?_, ?_, by simp; rintro rfl; exact hgc HQ.out.2.1⟩
        · rw [hl2]; exact heap_set HQ.out.2.2.2 0 _
        · rw [hl2, spcs_append]; exact HQ.out.1.setCell (by simp; rintro rfl; exact hgc HQ.out.2.1) _
      · intro y hy
        rw [List.mem_singleton.1 hy]
        exact HQ.out.2.1.imp id (fun h => by simp at h; omega)
      · exact (((Keep.refl (cb :: [g0]) w).alloc _).trans HQ.out.2.2.1 (fun y hy => .inl (by simp at hy ⊢; exact .inr hy))).setCell (.inl (by simp)) _
end Go.Proofs.Ytfmhlnfcbbpfeaa
/- restrict.Windows -/
namespace Go.Proofs.Ytfmhlnfcbbpfeaa
open Go Go.RowKit Sp

/-- the windows of the first k days -/
def winN (l : List Bool) : Nat → List (Int × Int)
  | 0 => []
  | k + 1 => if l.getD k false then joinS (winN l k) k else winN l k
theorem joinS_length (L : List (Int × Int)) (d : Int) : (joinS L d).length ≤ L.length + 1 := by
  unfold joinS
  split
  · rename_i s hs
    have : L ≠ [] := by rintro rfl; cases hs
    have h1 : 0 < L.length := List.length_pos_iff.2 this
    split <;> simp <;> omega
  · simp
theorem winN_length (l : List Bool) (k : Nat) : (winN l k).length ≤ k := by
  induction k with
  | zero => exact Nat.le_refl _
  | succ k ih =>
    unfold winN
    split
    · exact Nat.le_trans (joinS_length _ _) (by omega)
    · omega
def windowsS (p : Pol) (days : List Int) (v : Ves) : List (Int × Int) := if askS p days v = 0 then winN (passesS p days v) days.length else []

def SpansAt (w : World) (A : Option Addr) (c : Nat) (L : List (Int × Int)) : Prop := Rd w 2 A L.length (spcs L) ∧ L.length ≤ c ∧ c ≤ 9223372036854775807
def WindowsPost (w : World) (p : Pol) (days : List Int) (v : Ves) (e : Ending) (w' : World) : Prop :=
  ∃ A c, e = .returned (.tuple #[.slice A (windowsS p days v).length c, .int .i64 (askS p days v)]) ∧ SpansAt w' A c (windowsS p days v) ∧ Below w.heap.size w w'

set_option maxRecDepth 100000 in
set_option maxHeartbeats 2000000 in
theorem Windows_any (As : Option Addr) (cs : Nat) (p : Pol) (A : Option Addr) (c : Nat) (days : List Int) (v : Ves) (w : World) (hp : PolV w As cs p) (hr : Rd w 1 A days.length (ints days)) (hm : days.length ≤ 9223372036854775807) :
    Calls Try.prog 26 #[.agg #[.slice As p.steps.length cs, .int .i64 p.hold, .int .i64 p.calm, .int .i64 p.notice, .int .i64 p.grace], .slice A days.length c, .agg #[.int .i64 v.cls, .int .i64 v.ton, .bool v.esc]] w (WindowsPost w p days v) := by
  obtain ⟨er, her⟩ : ∃ er, er = askS p days v := ⟨_, rfl⟩
  obtain ⟨n, hn⟩ : ∃ n, n = if er = 0 then days.length else 0 := ⟨_, rfl⟩
  have b0 : ∀ o o', Below w.heap.size w ((w.alloc o).alloc o') := fun o o' => ((Below.refl _ _).alloc (Nat.le_refl _) _).alloc (by simp) _
  have hak : ∀ o o', Calls Try.prog 82 #[.agg #[.slice As p.steps.length cs, .int .i64 p.hold, .int .i64 p.calm, .int .i64 p.notice, .int .i64 p.grace], .slice A days.length c, .agg #[.int .i64 v.cls, .int .i64 v.ton, .bool v.esc]]
      ((w.alloc o).alloc o')
      fun e w1 => ∃ A1 c1, e = .returned (.tuple #[.slice A1 n c1, .int .i64 er]) ∧ (er = 0 → BoolsAt w1 A1 c1 (passesS p days v)) ∧ Below w.heap.size w w1 := by
    intro o o'
    refine (asked_any As cs p A c days v _ ⟨hp.1, hp.2.1, hp.2.2.below (b0 _ _)⟩ (hr.below (b0 _ _)) hm).mono ?_
    rintro e w1 ⟨A1, c1, rfl, h1, h2⟩
    exact ⟨A1, c1, by rw [hn, her], fun h => h1 (her.symm.trans h), (b0 _ _).trans (h2.mono (by simp; omega))⟩
  have HP := Lib.hid (And.intro her (And.intro hn hak))
  clear her hn hak b0 hr hp
  by_cases h0 : er = 0
  · subst h0
    have hne : ((0 : Int) != 0) = false := rfl
    obtain rfl : n = days.length := HP.out.2.1
    have hst : startS p days = 0 := by
      by_cases h : startS p days = 0
      · exact h
      · have := ask_start (v := v) h; rw [← HP.out.1] at this; exact absurd this.symm h
    obtain ⟨_, hl4, _⟩ := start_ok hst
    clear hst
    go_enter Try.func26, Try.ntmps26
    go_wp2_with fail
    refine (HP.out.2.2 _ _).mono ?_
    rintro e w1 ⟨A1, c1, rfl, h1, h2⟩
    obtain ⟨hr1, hc1, hc2⟩ := h1 trivial
    rw [passesS_length] at hr1 hc1
    have HB := Lib.hid h2
    clear h1 h2
    go_wp2_with fail
    obtain ⟨cb, hcb⟩ : ∃ cb, cb = w1.heap.size := ⟨_, rfl⟩
    rw [← hcb]
    obtain ⟨W, hW⟩ : ∃ W, W = w1.alloc (.cells #[.slice none 0 0] 61) := ⟨_, rfl⟩
    rw [← hW]
    have hh : W.heap[cb]? = some (.cells #[.slice none 0 0] 61 (0, 0)) := by rw [hW, hcb]; exact heap_alloc_new _ _
    have kW : Keep [] w1 W := by rw [hW]; exact (Keep.refl _ _).alloc _
    have zW : W.heap.size = cb + 1 := by rw [hW, hcb]; simp
    have hz := HB.out.size
    obtain ⟨l, hl⟩ : ∃ l, l = passesS p days v := ⟨_, rfl⟩
    have hll : l.length = days.length := by rw [hl, passesS_length]
    rw [← hl] at hr1
    have HL := Lib.hid (And.intro hl (And.intro kW hcb))
    clear hl hW kW hcb
    go_loopw [27] (fun i wr => ∃ (k : Nat) (fp : List Nat), k ≤ days.length ∧ i = .int .i64 k ∧ SpansIn wr cb (winN l k) fp ∧ (∀ g ∈ fp, cb + 1 ≤ g) ∧ Keep [cb] W wr)
      (fun i _ => days.length - (intOf i).toNat)
    case atStart => exact ⟨0, [], Nat.zero_le _, rfl, ⟨none, 0, hh, OwnS.nil _ _ _, by simp⟩, by simp, Keep.refl _ _⟩
    case round =>
      obtain ⟨k, fp, hk, rfl, hsp, hfp, hK⟩ := hrel
      by_cases hlt : k < days.length
      · obtain ⟨b, off, rfl, hb, hc⟩ := hr1.2 (by omega)
        have c0 : wr.cell? ⟨b, off + k, none⟩ = some (.bool (l.getD k false)) := hK.cell ((HL.out.2.1.cell (hc k _ (bools_get (by omega))) (by simp))) (by simp; have := HL.out.2.2; omega)
        obtain ⟨x, hx⟩ : ∃ x, x = l.getD k false := ⟨_, rfl⟩
        rw [← hx] at c0
        have HX := Lib.hid (And.intro hx (And.intro hsp (And.intro hfp hK)))
        clear hx hsp hfp hK hc hr1
        cases x
        · go_wp2_with fail
          go_roundw
          case rel =>
            refine ⟨k + 1, fp, by omega, by go_num, ?_, HX.out.2.2.1, HX.out.2.2.2⟩
            rw [winN, ← HX.out.1]; exact HX.out.2.1
          case measure => simp [intOf]; omega
        · have hwl := winN_length l k
          go_wp2_with (go_at_call 91; refine (join_any cb (winN l k) fp k wr HX.out.2.1 (by omega) (by omega)).mono ?_; rintro e w2 ⟨rfl, fp2, hs2, hf2, hk2⟩; have H2 := Lib.hid (And.intro hs2 (And.intro hf2 hk2)); clear hs2 hf2 hk2)
          go_roundw
          case rel =>
            have hwr := HX.out.2.2.2.size
            refine ⟨k + 1, fp2, by omega, by go_num, ?_, ?_, HX.out.2.2.2.trans H2.out.2.2 ?_⟩
            · rw [winN, ← HX.out.1]; exact H2.out.1
            · intro g hg
              rcases H2.out.2.1 g hg with h | h
              · exact HX.out.2.2.1 g h
              · omega
            · intro y hy
              rcases List.mem_cons.1 hy with h | h
              · exact .inl (by simp [h])
              · exact .inr (by have := HX.out.2.2.1 y h; omega)
          case measure => simp [intOf]; omega
      · obtain rfl : k = days.length := by omega
        obtain ⟨A2, c2, hh2, hown, hnc⟩ := hsp
        have c0 : wr.cell? ⟨cb, 0, none⟩ = some (.slice A2 (winN l days.length).length c2) := (cell_of_heap hh2 0).trans rfl
        have HO := Lib.hid (And.intro hown hK)
        clear hown hK hh2
        go_wp2_with fail
        go_ret2
        have he : windowsS p days v = winN l days.length := by unfold windowsS; rw [if_pos HP.out.1.symm, HL.out.1]
        refine ⟨A2, c2, by rw [he, ← HP.out.1]; rfl, by rw [he]; exact ⟨HO.out.1.rd, HO.out.1.ge, HO.out.1.cap⟩, ?_⟩
        have b1 : Below w1.heap.size w1 wr := (HL.out.2.1.below (Nat.le_refl _) (by simp)).trans (HO.out.2.below (by have := HL.out.2.2; omega) (by simp; have := HL.out.2.2; omega))
        exact HB.out.trans (b1.mono hz)
  · have hne : (er != 0) = true := by simp [h0]
    have HK := Lib.hid h0
    clear h0
    go_enter Try.func26, Try.ntmps26
    go_wp2_with fail
    refine (HP.out.2.2 _ _).mono ?_
    rintro e w1 ⟨A1, c1, rfl, h1, h2⟩
    have HB := Lib.hid h2
    clear h1 h2
    go_wp2_with fail
    go_ret2
    have he : windowsS p days v = [] := by unfold windowsS; rw [if_neg (by rw [← HP.out.1]; exact HK.out)]
    refine ⟨none, 0, by rw [he, ← HP.out.1]; rfl, by rw [he]; exact ⟨Rd.nil _ _ _, Nat.le_refl _, by omega⟩, HB.out⟩
end Go.Proofs.Ytfmhlnfcbbpfeaa
