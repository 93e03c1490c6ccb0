/- ice: first, CheckRates, change, aged (printed by wip/tools/icen.py) -/
import Derived.Test.YtfmhlnfcbbpfeaaRCp14
import Derived.Test.YtfmhlnfcbbpfeaaRCp16
import Derived.Test.YtfmhlnfcbbpfeaaRCp2
import Derived.IntWalk
import Derived.Test.YtfmhlnfcbbpfeaaRCp17
import Derived.Laws.EntriesVeiled
set_option linter.unusedVariables false
namespace Go.Proofs.Ytfmhlnfcbbpfeaa
open Go Go.RowKit Go.Lib Sp
set_option linter.unusedVariables false
set_option linter.unusedSimpArgs false

set_option maxRecDepth 100000 in
theorem first_zero (b : Nat) (w : World) (h0 : w.cell? ⟨b, 0, none⟩ = some (.int .i64 0)) (h1 : w.cell? ⟨b, 1, none⟩ = some (.int .i64 0)) :
    Calls Try.prog 122 #[.slice (some ⟨b, 0, none⟩) 2 2] w fun e w' => e = .returned (.int .i64 0) ∧ w = w' := by
  have zb := World.block_lt_of_cell? _ _ h0
  go_enter Try.func122, Try.ntmps122
  go_wp2_with fail
  go_loopw [7] (fun i wr => ∃ k : Nat, k ≤ 2 ∧ i = .int .i64 k ∧ w = wr) (fun i _ => 2 - (intOf i).toNat)
  case atStart => exact ⟨0, by omega, rfl, rfl⟩
  case round =>
    obtain ⟨k, hk, rfl, rfl⟩ := hrel
    rcases (by omega : k = 0 ∨ k = 1 ∨ k = 2) with rfl | rfl | rfl
    · go_wp2_with fail
      go_roundw
      case measure => simp [intOf]
      case rel => exact ⟨1, by omega, rfl, trivial⟩
    · go_wp2_with fail
      go_roundw
      case measure => simp [intOf]
      case rel => exact ⟨2, by omega, rfl, trivial⟩
    · go_wp2_with fail
      go_ret
      exact ⟨rfl, rfl⟩

abbrev ic4 (x : Ice) : Array Value := #[.int .i64 x.con, .int .i64 x.thk, .int .i64 x.rid, .int .i64 x.prs]
abbrev rtA (u d : Ice) : Array Value := #[.int .i64 u.con, .int .i64 u.thk, .int .i64 u.rid, .int .i64 u.prs, .int .i64 d.con, .int .i64 d.thk, .int .i64 d.rid, .int .i64 d.prs]
def rtN (u d : Ice) (k : Nat) : Bool := within (iceN u k) 0 1000 && within (iceN d k) 0 1000
def rtOk (u d : Ice) : Prop := ∀ k, k < 4 → 0 ≤ iceN u k ∧ iceN u k ≤ 1000 ∧ 0 ≤ iceN d k ∧ iceN d k ≤ 1000
theorem rt_all {u d : Ice} (h : rtOk u d) (k : Nat) (hk : k < 4) : rtN u d k = true := by
  have := h k hk
  simp only [rtN, within, Bool.and_eq_true, decide_eq_true_eq]
  omega
set_option maxRecDepth 100000 in
set_option maxHeartbeats 1000000 in
theorem rt1_ok (u d : Ice) (ub db : Nat) (k : Nat) (hk : k < 4) (hr : rtOk u d) (w : World) (hu : w.heap[ub]? = some (.cells (ic4 u) 174 (0, 0))) (hd : w.heap[db]? = some (.cells (ic4 d) 174 (0, 0))) :
    Calls Try.prog 143 #[.int .i64 k, .pointer (some ⟨ub, 0, none⟩), .pointer (some ⟨db, 0, none⟩)] w fun e w' => e = .returned (.bool true) ∧ Below w.heap.size w w' := by
  obtain ⟨x, y, hx, hy, hxr, hyr⟩ : ∃ x y : Int, w.cell? ⟨ub, k, none⟩ = some (.int .i64 x) ∧ w.cell? ⟨db, k, none⟩ = some (.int .i64 y) ∧ within x 0 1000 = true ∧ within y 0 1000 = true := by
    have hh := rt_all hr k hk
    simp only [rtN, Bool.and_eq_true] at hh
    rcases (by omega : k = 0 ∨ k = 1 ∨ k = 2 ∨ k = 3) with rfl | rfl | rfl | rfl
    · exact ⟨_, _, (cell_of_heap hu 0).trans rfl, (cell_of_heap hd 0).trans rfl, hh.1, hh.2⟩
    · exact ⟨_, _, (cell_of_heap hu 1).trans rfl, (cell_of_heap hd 1).trans rfl, hh.1, hh.2⟩
    · exact ⟨_, _, (cell_of_heap hu 2).trans rfl, (cell_of_heap hd 2).trans rfl, hh.1, hh.2⟩
    · exact ⟨_, _, (cell_of_heap hu 3).trans rfl, (cell_of_heap hd 3).trans rfl, hh.1, hh.2⟩
  have k1 : ∀ wx, Calls Try.prog 107 #[.int .i64 x, .int .i64 0, .int .i64 1000] wx fun e w' => e = .returned (.bool true) ∧ wx = w' := fun wx => by have := icein_any x 0 1000 wx; rwa [hxr] at this
  have k2 : ∀ wx, Calls Try.prog 107 #[.int .i64 y, .int .i64 0, .int .i64 1000] wx fun e w' => e = .returned (.bool true) ∧ wx = w' := fun wx => by have := icein_any y 0 1000 wx; rwa [hyr] at this
  have zu := heap_lt hu
  have zd := heap_lt hd
  have b1 : (0 : Int) ≤ (k : Int) := by omega
  have b2 : (k : Int) < 4 := by omega
  have H := Lib.hid (And.intro k1 k2)
  clear k1 k2 hxr hyr hu hd
  go_enter Try.func143, Try.ntmps143
  go_wp2_with (first | (go_at_call 107; with_reducible refine (H.out.1 _).mono ?_; rintro e w' ⟨rfl, rfl⟩) | (go_at_call 107; with_reducible refine (H.out.2 _).mono ?_; rintro e w' ⟨rfl, rfl⟩))
  go_ret
  exact ⟨rfl, Below.refl _ _⟩

/-- two blocks of numbers, made in whatever order -/
structure RtW (W0 : World) (u d : Ice) (s : Nat × Nat) (l : Nat → Bool) (w : World) : Prop where
  bel : Below W0.heap.size W0 w
  q1 : l 6 = true → W0.heap.size ≤ s.1 ∧ w.heap[s.1]? = some (.cells (if l 8 then ic4 u else #[.int .i64 0, .int .i64 0, .int .i64 0, .int .i64 0]) 174 (0, 0))
  q2 : l 7 = true → W0.heap.size ≤ s.2 ∧ w.heap[s.2]? = some (.cells (if l 9 then ic4 d else #[.int .i64 0, .int .i64 0, .int .i64 0, .int .i64 0]) 174 (0, 0))
  ne : l 6 = true → l 7 = true → s.1 ≠ s.2
section
variable {W0 : World} {u d : Ice} {s : Nat × Nat} {l : Nat → Bool} {w w' : World}
theorem upd_n {i j : Nat} (h : j ≠ i) : upd l i j = l j := if_neg h
theorem RtW.call (h : RtW W0 u d s l w) (i : Nat) (hi : i ≠ 6 ∧ i ≠ 7 ∧ i ≠ 8 ∧ i ≠ 9) (hb : Below w.heap.size w w') : RtW W0 u d s (upd l i) w' := by
  obtain ⟨a1, a2, a3, a4⟩ := hi
  refine ⟨h.bel.trans (hb.mono h.bel.size), ?_, ?_, ?_⟩
  · rw [upd_n (Ne.symm a1), upd_n (Ne.symm a3)]; exact fun q => ⟨(h.q1 q).1, (hb.block _ (heap_lt (h.q1 q).2)).trans (h.q1 q).2⟩
  · rw [upd_n (Ne.symm a2), upd_n (Ne.symm a4)]; exact fun q => ⟨(h.q2 q).1, (hb.block _ (heap_lt (h.q2 q).2)).trans (h.q2 q).2⟩
  · rw [upd_n (Ne.symm a1), upd_n (Ne.symm a2)]; exact h.ne
theorem RtW.other (h : RtW W0 u d s l w) (i : Nat) (hi : i ≠ 6 ∧ i ≠ 7 ∧ i ≠ 8 ∧ i ≠ 9) : RtW W0 u d s (upd l i) w := h.call i hi (Below.refl _ _)
theorem RtW.allocA (h : RtW W0 u d s l w) (h8 : l 8 = false) : RtW W0 u d (w.heap.size, s.2) (upd l 6) (w.alloc (.cells #[.int .i64 0, .int .i64 0, .int .i64 0, .int .i64 0] 174)) := by
  have hb : Below w.heap.size w (w.alloc (.cells #[.int .i64 0, .int .i64 0, .int .i64 0, .int .i64 0] 174)) := (Below.refl _ _).alloc (Nat.le_refl _) _
  refine ⟨h.bel.trans (hb.mono h.bel.size), ?_, ?_, ?_⟩
  · rw [upd_n (show 8 ≠ 6 by decide), h8]; exact fun _ => ⟨h.bel.size, heap_alloc_new _ _⟩
  · rw [upd_n (show 7 ≠ 6 by decide), upd_n (show 9 ≠ 6 by decide)]; exact fun q => ⟨(h.q2 q).1, heap_alloc' (h.q2 q).2 _⟩
  · rw [upd_n (show 7 ≠ 6 by decide)]; exact fun _ q e => by have := heap_lt (h.q2 q).2; simp only at e; omega
theorem RtW.allocB (h : RtW W0 u d s l w) (h9 : l 9 = false) : RtW W0 u d (s.1, w.heap.size) (upd l 7) (w.alloc (.cells #[.int .i64 0, .int .i64 0, .int .i64 0, .int .i64 0] 174)) := by
  have hb : Below w.heap.size w (w.alloc (.cells #[.int .i64 0, .int .i64 0, .int .i64 0, .int .i64 0] 174)) := (Below.refl _ _).alloc (Nat.le_refl _) _
  refine ⟨h.bel.trans (hb.mono h.bel.size), ?_, ?_, ?_⟩
  · rw [upd_n (show 6 ≠ 7 by decide), upd_n (show 8 ≠ 7 by decide)]; exact fun q => ⟨(h.q1 q).1, heap_alloc' (h.q1 q).2 _⟩
  · rw [upd_n (show 9 ≠ 7 by decide), h9]; exact fun _ => ⟨h.bel.size, heap_alloc_new _ _⟩
  · rw [upd_n (show 6 ≠ 7 by decide)]; exact fun q _ e => by have := heap_lt (h.q1 q).2; simp only at e; omega
theorem keep4 (w : World) (b : Nat) (v0 v1 v2 v3 : Value) : Keep [b] w ((((w.setCell ⟨b, 0, none⟩ v0).setCell ⟨b, 1, none⟩ v1).setCell ⟨b, 2, none⟩ v2).setCell ⟨b, 3, none⟩ v3) :=
  ((((Keep.refl [b] w).setCell (.inl (by simp)) _).setCell (.inl (by simp)) _).setCell (.inl (by simp)) _).setCell (.inl (by simp)) _
theorem RtW.storeA (h : RtW W0 u d s l w) (h6 : l 6 = true) (h8 : l 8 = false) : RtW W0 u d s (upd l 8) ((((w.setCell ⟨s.1, 0, none⟩ (.int .i64 u.con)).setCell ⟨s.1, 1, none⟩ (.int .i64 u.thk)).setCell ⟨s.1, 2, none⟩ (.int .i64 u.rid)).setCell ⟨s.1, 3, none⟩ (.int .i64 u.prs)) := by
  have K := keep4 w s.1 (.int .i64 u.con) (.int .i64 u.thk) (.int .i64 u.rid) (.int .i64 u.prs)
  have q := h.q1 h6
  rw [h8] at q
  refine ⟨h.bel.trans (K.below h.bel.size (by simpa using q.1)), ?_, ?_, ?_⟩
  · rw [upd_n (show 6 ≠ 8 by decide)]
    have e : upd l 8 8 = true := if_pos rfl
    rw [e]
    exact fun _ => ⟨q.1, heap_set (heap_set (heap_set (heap_set q.2 0 _) 1 _) 2 _) 3 _⟩
  · rw [upd_n (show 7 ≠ 8 by decide), upd_n (show 9 ≠ 8 by decide)]
    exact fun h7 => ⟨(h.q2 h7).1, (K.block _ (heap_lt (h.q2 h7).2) (by simpa using (h.ne h6 h7).symm)).trans (h.q2 h7).2⟩
  · rw [upd_n (show 6 ≠ 8 by decide), upd_n (show 7 ≠ 8 by decide)]; exact h.ne
theorem RtW.storeB (h : RtW W0 u d s l w) (h7 : l 7 = true) (h9 : l 9 = false) : RtW W0 u d s (upd l 9) ((((w.setCell ⟨s.2, 0, none⟩ (.int .i64 d.con)).setCell ⟨s.2, 1, none⟩ (.int .i64 d.thk)).setCell ⟨s.2, 2, none⟩ (.int .i64 d.rid)).setCell ⟨s.2, 3, none⟩ (.int .i64 d.prs)) := by
  have K := keep4 w s.2 (.int .i64 d.con) (.int .i64 d.thk) (.int .i64 d.rid) (.int .i64 d.prs)
  have q := h.q2 h7
  rw [h9] at q
  refine ⟨h.bel.trans (K.below h.bel.size (by simpa using q.1)), ?_, ?_, ?_⟩
  · rw [upd_n (show 6 ≠ 9 by decide), upd_n (show 8 ≠ 9 by decide)]
    exact fun h6 => ⟨(h.q1 h6).1, (K.block _ (heap_lt (h.q1 h6).2) (by simpa using h.ne h6 h7)).trans (h.q1 h6).2⟩
  · rw [upd_n (show 7 ≠ 9 by decide)]
    have e : upd l 9 9 = true := if_pos rfl
    rw [e]
    exact fun _ => ⟨q.1, heap_set (heap_set (heap_set (heap_set q.2 0 _) 1 _) 2 _) 3 _⟩
  · rw [upd_n (show 6 ≠ 9 by decide), upd_n (show 7 ≠ 9 by decide)]; exact h.ne
end

set_option linter.unusedVariables false
def CrV (W0 : World) (rb : Nat) (u d : Ice) (s : Nat × Nat) : Nat → Value → Prop
  | 0, v => v = .pointer (some ⟨rb, 0, none⟩)
  | 1, v => v = .agg #[.int .i64 u.con, .int .i64 u.thk, .int .i64 u.rid, .int .i64 u.prs]
  | 2, v => v = .agg #[.int .i64 u.con, .int .i64 u.thk, .int .i64 u.rid, .int .i64 u.prs]
  | 3, v => v = .pointer (some ⟨rb, 4, none⟩)
  | 4, v => v = .agg #[.int .i64 d.con, .int .i64 d.thk, .int .i64 d.rid, .int .i64 d.prs]
  | 5, v => v = .agg #[.int .i64 d.con, .int .i64 d.thk, .int .i64 d.rid, .int .i64 d.prs]
  | 6, v => v = .pointer (some ⟨s.1, 0, none⟩)
  | 7, v => v = .pointer (some ⟨s.2, 0, none⟩)
  | _, _ => True
def CrW (W0 : World) (rb : Nat) (u d : Ice) (s : Nat × Nat) (l : Nat → Bool) (w : World) : Prop := RtW W0 u d s l w

set_option maxRecDepth 100000 in
set_option maxHeartbeats 2000000 in
theorem checkRates_ok (u d : Ice) (hr : rtOk u d) (w : World) :
    Calls Try.prog 123 #[.agg (rtA u d)] w fun e w' => e = .returned (.int .i64 0) ∧ Below w.heap.size w w' := by
  obtain ⟨W, hW⟩ : ∃ W, W = w.alloc (.cells (rtA u d) 139) := ⟨_, rfl⟩
  obtain ⟨rb, hrb⟩ : ∃ b, b = w.heap.size := ⟨_, rfl⟩
  have hrh : W.heap[rb]? = some (.cells (rtA u d) 139 (0, 0)) := by rw [hW, hrb]; exact heap_alloc_new _ _
  have bW : Below w.heap.size w W := by rw [hW]; exact (Below.refl _ _).alloc (Nat.le_refl _) _
  have hcell : ∀ j v, (rtA u d)[j]? = some v → ∀ w', Below W.heap.size W w' → w'.cell? ⟨rb, j, none⟩ = some v := fun j v hv w' hB => (hB.cell (p := ⟨rb, j, none⟩) (heap_lt hrh)).trans ((cell_of_heap hrh j).trans hv)
  have HC0 := Lib.hid (hcell 0 _ rfl)
  have HC1 := Lib.hid (hcell 1 _ rfl)
  have HC2 := Lib.hid (hcell 2 _ rfl)
  have HC3 := Lib.hid (hcell 3 _ rfl)
  have HC4 := Lib.hid (hcell 4 _ rfl)
  have HC5 := Lib.hid (hcell 5 _ rfl)
  have HC6 := Lib.hid (hcell 6 _ rfl)
  have HC7 := Lib.hid (hcell 7 _ rfl)
  have HW := Lib.hid bW
  have HO := Lib.hid hr
  clear hcell hrh bW hr
  go_enter Try.func123, Try.ntmps123
  go_upto_region 1 with fail
  rw [← hW, ← hrb]
  clear hW hrb
  refine wp_region_steps (σ := Nat × Nat) (by kernel_rfl) (by kernel_rfl) (fun sg jx vx _ => CrV W rb u d sg jx vx) (fun sg ly wx => CrW W rb u d sg ly wx) (0, 0) ?_ ?_ ?_
  · exact ⟨(Below.refl _ _).drew, (fun h => by cases h), (fun h => by cases h), (fun h => by cases h)⟩
  · simp only [AllFrom, Nat.zero_add, Nat.reduceAdd]
    refine ⟨?_, ?_, ?_, ?_, ?_, ?_, ?_, ?_, ?_, ?_, trivial⟩
    · refine step_pure fun sg ly a wr hl hd hW hF => ?_
      have et1 := hF.old 1 (by kernel_rfl)
      simp [Act.eval] at et1
      exact ⟨hW.other _ (by decide), .pointer (some ⟨rb, 0, none⟩), by go_simp, rfl⟩
    · refine step_pure fun sg ly a wr hl hd hW hF => ?_
      simp [Region.binds] at hd
      have et5 := hF.new 0 5 (by simp [hd]) rfl
      simp [CrV, Act.eval] at et5
      have c0 := HC0.out wr hW.bel
      have c1 := HC1.out wr hW.bel
      have c2 := HC2.out wr hW.bel
      have c3 := HC3.out wr hW.bel
      exact ⟨hW.other _ (by decide), _, by go_simp, rfl⟩
    · refine step_call fun sg ly a wr hl hd hW hF => ?_
      simp [Region.binds] at hd
      have et6 := hF.new 1 6 (by simp [hd]) rfl
      simp [CrV, Act.eval] at et6
      refine ⟨104, #[.agg #[.int .i64 u.con, .int .i64 u.thk, .int .i64 u.rid, .int .i64 u.prs]], by go_simp, ?_⟩
      refine (numbers_any u wr).mono ?_
      rintro e w2 ⟨rfl, b2⟩
      exact ⟨_, sg, rfl, hW.call _ (by decide) b2, rfl, fun _ _ _ h => h⟩
    · refine step_pure fun sg ly a wr hl hd hW hF => ?_
      have et1 := hF.old 1 (by kernel_rfl)
      simp [Act.eval] at et1
      exact ⟨hW.other _ (by decide), .pointer (some ⟨rb, 4, none⟩), by go_simp, rfl⟩
    · refine step_pure fun sg ly a wr hl hd hW hF => ?_
      simp [Region.binds] at hd
      have et8 := hF.new 3 8 (by simp [hd]) rfl
      simp [CrV, Act.eval] at et8
      have c4 := HC4.out wr hW.bel
      have c5 := HC5.out wr hW.bel
      have c6 := HC6.out wr hW.bel
      have c7 := HC7.out wr hW.bel
      exact ⟨hW.other _ (by decide), _, by go_simp, rfl⟩
    · refine step_call fun sg ly a wr hl hd hW hF => ?_
      simp [Region.binds] at hd
      have et9 := hF.new 4 9 (by simp [hd]) rfl
      simp [CrV, Act.eval] at et9
      refine ⟨104, #[.agg #[.int .i64 d.con, .int .i64 d.thk, .int .i64 d.rid, .int .i64 d.prs]], by go_simp, ?_⟩
      refine (numbers_any d wr).mono ?_
      rintro e w2 ⟨rfl, b2⟩
      exact ⟨_, sg, rfl, hW.call _ (by decide) b2, rfl, fun _ _ _ h => h⟩
    · refine step_run fun sg ly a wr hl hd hW hF => ?_
      have n8 := hF.notYet 6 8 hl (by kernel_rfl)
      refine ⟨_, wr.alloc (.cells #[.int .i64 0, .int .i64 0, .int .i64 0, .int .i64 0] 174), (wr.heap.size, sg.2), by go_simp, hW.allocA n8, rfl, ?_⟩
      intro i u hi h
      have i2 : i ≠ 6 := by rintro rfl; rw [hl] at hi; cases hi
      unfold CrV at h ⊢
      split at h <;> first | exact h | exact absurd rfl i2
    · refine step_run fun sg ly a wr hl hd hW hF => ?_
      have n9 := hF.notYet 7 9 hl (by kernel_rfl)
      refine ⟨_, wr.alloc (.cells #[.int .i64 0, .int .i64 0, .int .i64 0, .int .i64 0] 174), (sg.1, wr.heap.size), by go_simp, hW.allocB n9, rfl, ?_⟩
      intro i u hi h
      have i2 : i ≠ 7 := by rintro rfl; rw [hl] at hi; cases hi
      unfold CrV at h ⊢
      split at h <;> first | exact h | exact absurd rfl i2
    · refine step_store rfl fun sg ly a wr hl hd hW hF => ?_
      simp [Region.binds] at hd
      have et3 := hF.new 6 3 (by simp [hd]) rfl
      simp [CrV, Act.eval] at et3
      have et7 := hF.new 2 7 (by simp [hd]) rfl
      simp [CrV, Act.eval] at et7
      have y := (show ly 6 = true by simp [hd])
      have hq := (hW.q1 y).2
      rw [hl] at hq
      have c0 := (cell_of_heap hq 0).trans rfl
      have f0 := frozen_of_heap hq 0
      have c1 := (cell_of_heap hq 1).trans rfl
      have f1 := frozen_of_heap hq 1
      have c2 := (cell_of_heap hq 2).trans rfl
      have f2 := frozen_of_heap hq 2
      have c3 := (cell_of_heap hq 3).trans rfl
      have f3 := frozen_of_heap hq 3
      have zq := heap_lt hq
      exact ⟨_, sg, .skip, by go_simp, .inl rfl, hW.storeA y hl, fun _ _ _ h => h⟩
    · refine step_store rfl fun sg ly a wr hl hd hW hF => ?_
      simp [Region.binds] at hd
      have et4 := hF.new 7 4 (by simp [hd]) rfl
      simp [CrV, Act.eval] at et4
      have et10 := hF.new 5 10 (by simp [hd]) rfl
      simp [CrV, Act.eval] at et10
      have y := (show ly 7 = true by simp [hd])
      have hq := (hW.q2 y).2
      rw [hl] at hq
      have c0 := (cell_of_heap hq 0).trans rfl
      have f0 := frozen_of_heap hq 0
      have c1 := (cell_of_heap hq 1).trans rfl
      have f1 := frozen_of_heap hq 1
      have c2 := (cell_of_heap hq 2).trans rfl
      have f2 := frozen_of_heap hq 2
      have c3 := (cell_of_heap hq 3).trans rfl
      have f3 := frozen_of_heap hq 3
      have zq := heap_lt hq
      exact ⟨_, sg, .skip, by go_simp, .inl rfl, hW.storeB y hl, fun _ _ _ h => h⟩
  intro sg a w5 hWW hF
  have e3 := hF.new 6 3 (by decide) rfl
  have e4 := hF.new 7 4 (by decide) rfl
  obtain ⟨f, hf, rfl⟩ := hF.lit
  rw [← hf] at e3 e4
  simp only [CrV] at e3 e4
  have q1 := (hWW.q1 rfl).2
  have q2 := (hWW.q2 rfl).2
  simp only [List.length_cons, List.length_nil, Nat.reduceAdd, Nat.reduceLT, decide_true, if_true] at q1 q2
  have ka := allRt_any sg.1 sg.2 (fun _ => true) w5 (fun (k : Nat) hk wx hx => rt1_ok u d sg.1 sg.2 k hk HO.out wx ((hx.block _ (heap_lt q1)).trans q1) ((hx.block _ (heap_lt q2)).trans q2))
  have HA := Lib.hid (And.intro ka (HW.out.trans (hWW.bel.mono HW.out.size)))
  clear hf hF hWW q1 q2 ka
  simp only [List.filterMap, List.foldl, List.setIfInBounds_toArray, List.set_cons_succ, List.set_cons_zero, e3, e4]
  clear e3 e4
  go_wp2_with (go_at_call 105; refine HA.out.1.mono ?_; rintro e w6 ⟨rfl, b6⟩)
  go_ret
  exact ⟨rfl, HA.out.2.trans (b6.mono HA.out.2.size)⟩

def chg (r h : Int) : Int := Int.tdiv (r * h + 24 - 1) 24
theorem chg_bd {r h : Int} (h1 : 0 ≤ r ∧ r ≤ 1000) (h2 : 0 ≤ h ∧ h ≤ 10000) : 0 ≤ chg r h ∧ chg r h ≤ 500000 ∧ 0 ≤ r * h ∧ r * h ≤ 10000000 := by
  have a := Int.mul_nonneg h1.1 h2.1
  have b := Int.mul_le_mul h1.2 h2.2 h2.1 (by omega)
  unfold chg
  rw [Int.tdiv_eq_ediv_of_nonneg (by omega)]
  omega
set_option maxRecDepth 100000 in
theorem change_any (r h : Int) (h1 : 0 ≤ r ∧ r ≤ 1000) (h2 : 0 ≤ h ∧ h ≤ 10000) (w : World) :
    Calls Try.prog 146 #[.int .i64 r, .int .i64 h] w fun e w' => e = .returned (.int .i64 (chg r h)) ∧ w = w' := by
  obtain ⟨a1, a2, a3, a4⟩ := chg_bd h1 h2
  obtain ⟨P, hP⟩ : ∃ P, P = r * h := ⟨_, rfl⟩
  obtain ⟨Q, hQ⟩ : ∃ Q, Q = chg r h := ⟨_, rfl⟩
  have hQ2 : Int.tdiv (P + 24 - 1) 24 = Q := by rw [hQ, hP]; rfl
  rw [← hQ] at a1 a2 ⊢
  rw [← hP] at a3 a4
  obtain ⟨k1, k2, k3, k4, k5⟩ : IntKind.i64.wrap (r * h) = P ∧ IntKind.i64.wrap (P + 24) = P + 24 ∧ IntKind.i64.wrap (P + 24 - 1) = P + 24 - 1 ∧ Int.tdiv (P + 24 - 1) 24 = Q ∧ IntKind.i64.wrap Q = Q := ⟨by rw [← hP]; exact IntWalk.i64_in _ (by omega), IntWalk.i64_in _ (by omega), IntWalk.i64_in _ (by omega), hQ2, IntWalk.i64_in _ (by omega)⟩
  have H := Lib.hid (And.intro k1 (And.intro k2 (And.intro k3 (And.intro k4 k5))))
  clear hP hQ hQ2 h1 h2 k2 k3
  go_enter Try.func146, Try.ntmps146
  go_wp2_with fail
  go_ret
  exact ⟨rfl, rfl⟩

end Go.Proofs.Ytfmhlnfcbbpfeaa
/- polynyalaw03.Frozen, Some: a cell within the limits, an ice in it (printed by wip/tools/fzb.py) -/
namespace Go.Proofs.Ytfmhlnfcbbpfeaa
open Go Go.RowKit Go.Lib Sp
set_option linter.unusedVariables false
set_option linter.unusedSimpArgs false

def FrozenPost (w : World) (e : Ending) (w' : World) : Prop := ∃ x : Cel, e = .returned (.agg (celA x)) ∧ celOk x = true ∧ Below w.heap.size w w'
set_option maxRecDepth 100000 in
set_option maxHeartbeats 2000000 in
theorem Frozen_any (A : Option Addr) (c : Nat) (l : List Int) (w : World) (hr : Rd w 1 A l.length (byts l)) (hb : Bytes l) (hl : l.length ≤ 9223372036854775806) :
    Calls Try.prog 70 #[.slice A l.length c] w (FrozenPost w) := by
  obtain ⟨W, hW⟩ : ∃ W, W = w.alloc (.cells #[.int .i64 0, .int .i64 0, .int .i64 0, .int .i64 0, .int .i64 0, .int .i64 0, .int .i64 0, .int .i64 0] 123) := ⟨_, rfl⟩
  obtain ⟨rb, hrb⟩ : ∃ b, b = w.heap.size := ⟨_, rfl⟩
  have hrh : W.heap[rb]? = some (.cells #[.int .i64 0, .int .i64 0, .int .i64 0, .int .i64 0, .int .i64 0, .int .i64 0, .int .i64 0, .int .i64 0] 123 (0, 0)) := by rw [hW, hrb]; exact heap_alloc_new _ _
  have bW : Below w.heap.size w W := by rw [hW]; exact (Below.refl _ _).alloc (Nat.le_refl _) _
  have kd := Drawn_some w.heap.size A c l W (hr.below bW) hb hl bW.size (fun h0 b off e => hr.lt' h0 e)
  have HR := Lib.hid (And.intro hrh (And.intro bW (And.intro kd (show w.heap.size ≤ rb by omega))))
  clear hrh bW kd hr hb
  go_enter Try.func70, Try.ntmps70
  go_upto_region 1 with fail
  rw [← hW, ← hrb]
  clear hW hrb
  go_wp2_with fail
  refine HR.out.2.2.1.mono ?_
  rintro e w1 ⟨ib, lb, rfl, hn, h1, h2, b1⟩
  go_upto_region 3 with fail
  obtain ⟨w2, hw2⟩ : ∃ w2, w2 = w1.alloc (.cells #[.func (.func 114) #[] #[.pointer (some ⟨ib, 0, none⟩), .pointer (some ⟨lb, 0, none⟩)]] 128) := ⟨_, rfl⟩
  obtain ⟨nb, hnb⟩ : ∃ nb, nb = w1.heap.size := ⟨_, rfl⟩
  have hlt := hn.lt
  have b2 : Below w1.heap.size w1 w2 := by rw [hw2]; exact (Below.refl _ _).alloc (Nat.le_refl _) _
  have hf : w2.cell? ⟨nb, 0, none⟩ = some (.func (.func 114) #[] #[.pointer (some ⟨ib, 0, none⟩), .pointer (some ⟨lb, 0, none⟩)]) := by rw [hw2, hnb]; exact cell_new_one _ _ _
  have hn2 := hn.below b2
  have b02 : Below W.heap.size W w2 := b1.trans (b2.mono b1.size)
  have hne : nb ≠ ib := by omega
  have hib : W.heap.size ≤ ib := h1
  have H2 := Lib.hid (And.intro hn2 (And.intro hf (And.intro (Keep.of_below (S := [ib]) b02) (And.intro hne hib))))
  rw [← hw2, ← hnb]
  clear hw2 hnb hlt b2 hf hn2 b02 hne hib hn h1 h2 b1
  go_wp2_with fail
  refine (frozen1_any w.heap.size ib lb nb 1 40 100 100 (by decide) (by decide) (by decide) (by decide) (by decide) w2 H2.out.1 H2.out.2.1 H2.out.2.2.2.1).mono ?_
  rintro e w3 ⟨lo0, hi0, rfl, hb0, hn, hk⟩
  have H3 := Lib.hid (And.intro hn (And.intro (hk.cell H2.out.2.1 (by simpa using H2.out.2.2.2.1)) (And.intro (H2.out.2.2.1.trans hk (fun z hz => .inl hz)) (And.intro H2.out.2.2.2.1 H2.out.2.2.2.2))))
  clear hn hk
  go_wp2_with fail
  refine (frozen1_any w.heap.size ib lb nb 2 120 400 200 (by decide) (by decide) (by decide) (by decide) (by decide) w3 H3.out.1 H3.out.2.1 H3.out.2.2.2.1).mono ?_
  rintro e w4 ⟨lo1, hi1, rfl, hb1, hn, hk⟩
  have H4 := Lib.hid (And.intro hn (And.intro (hk.cell H3.out.2.1 (by simpa using H3.out.2.2.2.1)) (And.intro (H3.out.2.2.1.trans hk (fun z hz => .inl hz)) (And.intro H3.out.2.2.2.1 H3.out.2.2.2.2))))
  clear hn hk
  go_wp2_with fail
  refine (frozen1_any w.heap.size ib lb nb 1 20 100 100 (by decide) (by decide) (by decide) (by decide) (by decide) w4 H4.out.1 H4.out.2.1 H4.out.2.2.2.1).mono ?_
  rintro e w5 ⟨lo2, hi2, rfl, hb2, hn, hk⟩
  have H5 := Lib.hid (And.intro hn (And.intro (hk.cell H4.out.2.1 (by simpa using H4.out.2.2.2.1)) (And.intro (H4.out.2.2.1.trans hk (fun z hz => .inl hz)) (And.intro H4.out.2.2.2.1 H4.out.2.2.2.2))))
  clear hn hk
  go_wp2_with fail
  refine (frozen1_any w.heap.size ib lb nb 1 4 3 3 (by decide) (by decide) (by decide) (by decide) (by decide) w5 H5.out.1 H5.out.2.1 H5.out.2.2.2.1).mono ?_
  rintro e w6 ⟨lo3, hi3, rfl, hb3, hn, hk⟩
  have H6 := Lib.hid (And.intro hn (And.intro (hk.cell H5.out.2.1 (by simpa using H5.out.2.2.2.1)) (And.intro (H5.out.2.2.1.trans hk (fun z hz => .inl hz)) (And.intro H5.out.2.2.2.1 H5.out.2.2.2.2))))
  clear hn hk
  have hr6 := (H6.out.2.2.1.block _ (heap_lt HR.out.1) (by have := heap_lt HR.out.1; have := H6.out.2.2.2.2; simp; omega)).trans HR.out.1
  have c0 := (cell_of_heap hr6 0).trans rfl
  have f0 := frozen_of_heap hr6 0
  have c1 := (cell_of_heap hr6 1).trans rfl
  have f1 := frozen_of_heap hr6 1
  have c2 := (cell_of_heap hr6 2).trans rfl
  have f2 := frozen_of_heap hr6 2
  have c3 := (cell_of_heap hr6 3).trans rfl
  have f3 := frozen_of_heap hr6 3
  have c4 := (cell_of_heap hr6 4).trans rfl
  have f4 := frozen_of_heap hr6 4
  have c5 := (cell_of_heap hr6 5).trans rfl
  have f5 := frozen_of_heap hr6 5
  have c6 := (cell_of_heap hr6 6).trans rfl
  have f6 := frozen_of_heap hr6 6
  have c7 := (cell_of_heap hr6 7).trans rfl
  have f7 := frozen_of_heap hr6 7
  have zr := heap_lt hr6
  have hfin : ((((((((w6.setCell ⟨rb, 0, none⟩ (.int .i64 lo0)).setCell ⟨rb, 1, none⟩ (.int .i64 hi0)).setCell ⟨rb, 2, none⟩ (.int .i64 lo1)).setCell ⟨rb, 3, none⟩ (.int .i64 hi1)).setCell ⟨rb, 4, none⟩ (.int .i64 lo2)).setCell ⟨rb, 5, none⟩ (.int .i64 hi2)).setCell ⟨rb, 6, none⟩ (.int .i64 lo3)).setCell ⟨rb, 7, none⟩ (.int .i64 hi3)).heap[rb]? = some (.cells #[.int .i64 lo0, .int .i64 hi0, .int .i64 lo1, .int .i64 hi1, .int .i64 lo2, .int .i64 hi2, .int .i64 lo3, .int .i64 hi3] 123 (0, 0)) := (heap_set (heap_set (heap_set (heap_set (heap_set (heap_set (heap_set (heap_set hr6 0 (.int .i64 lo0)) 1 (.int .i64 hi0)) 2 (.int .i64 lo1)) 3 (.int .i64 hi1)) 4 (.int .i64 lo2)) 5 (.int .i64 hi2)) 6 (.int .i64 lo3)) 7 (.int .i64 hi3))
  have b6 : Below w.heap.size w w6 := HR.out.2.1.trans ((H6.out.2.2.1.below (Nat.le_refl _) (by simpa using H6.out.2.2.2.2)).mono HR.out.2.1.size)
  have H7 := Lib.hid (And.intro hfin (((((((((b6.setCell (p := ⟨rb, 0, none⟩) HR.out.2.2.2 (.int .i64 lo0)).setCell (p := ⟨rb, 1, none⟩) HR.out.2.2.2 (.int .i64 hi0)).setCell (p := ⟨rb, 2, none⟩) HR.out.2.2.2 (.int .i64 lo1)).setCell (p := ⟨rb, 3, none⟩) HR.out.2.2.2 (.int .i64 hi1)).setCell (p := ⟨rb, 4, none⟩) HR.out.2.2.2 (.int .i64 lo2)).setCell (p := ⟨rb, 5, none⟩) HR.out.2.2.2 (.int .i64 hi2)).setCell (p := ⟨rb, 6, none⟩) HR.out.2.2.2 (.int .i64 lo3)).setCell (p := ⟨rb, 7, none⟩) HR.out.2.2.2 (.int .i64 hi3))))
  clear hr6 hfin b6
  go_wp2_with fail
  refine bodyPost_ret (celA_results (r := 2) rfl H7.out.1 _ rfl) rfl ⟨⟨lo0, hi0, lo1, hi1, lo2, hi2, lo3, hi3⟩, rfl, ?_, H7.out.2⟩
  simp only [celOk, spanOk, within, Bool.and_eq_true, decide_eq_true_eq]
  omega

set_option linter.unusedVariables false
def SoV (D : Nat) (W0 : World) (ib lb nb xb : Nat) (lo hi : Int) (s : Int × Int) : Nat → Value → Prop
  | 0, v => v = .pointer (some ⟨xb, 0, none⟩)
  | 1, v => v = .int .i64 lo
  | 2, v => v = .func (.func 114) #[] #[.pointer (some ⟨ib, 0, none⟩), .pointer (some ⟨lb, 0, none⟩)]
  | 3, v => v = .int .i64 s.1
  | 4, v => v = .func (.func 114) #[] #[.pointer (some ⟨ib, 0, none⟩), .pointer (some ⟨lb, 0, none⟩)]
  | 5, v => v = .int .i64 s.2
  | 6, v => v = .int .i64 (256 * s.2)
  | 7, v => v = .int .i64 (s.1 + 256 * s.2)
  | 8, v => v = .pointer (some ⟨xb, 1, none⟩)
  | 9, v => v = .int .i64 hi
  | 10, v => v = .pointer (some ⟨xb, 0, none⟩)
  | 11, v => v = .int .i64 lo
  | 12, v => v = .int .i64 (hi - lo)
  | 13, v => v = .int .i64 (hi - lo + 1)
  | 14, v => v = .int .i64 (Int.tmod (s.1 + 256 * s.2) (hi - lo + 1))
  | 15, v => v = .int .i64 (lo + Int.tmod (s.1 + 256 * s.2) (hi - lo + 1))
  | 16, v => v = .int .i64 (lo + Int.tmod (s.1 + 256 * s.2) (hi - lo + 1))
  | _, _ => True
def SoW (D : Nat) (W0 : World) (ib lb nb xb : Nat) (lo hi : Int) (s : Int × Int) (l : Nat → Bool) (w : World) : Prop := FzW D W0 ib lb nb [] w ∧ (l 3 = true → 0 ≤ s.1 ∧ s.1 < 256) ∧ (l 5 = true → 0 ≤ s.2 ∧ s.2 < 2)
theorem tmod_bd {a b : Int} (ha : 0 ≤ a) (hb : 0 < b) : 0 ≤ Int.tmod a b ∧ Int.tmod a b < b := by
  rw [Int.tmod_eq_emod_of_nonneg ha]; exact ⟨Int.emod_nonneg _ (by omega), Int.emod_lt_of_pos _ hb⟩
def OnePost (D : Nat) (w : World) (ib lb : Nat) (lo hi : Int) (e : Ending) (w' : World) : Prop := ∃ r : Int, e = .returned (.int .i64 r) ∧ (lo ≤ r ∧ r ≤ hi) ∧ NxS D w' ib lb ∧ Keep [ib] w w'
set_option maxRecDepth 100000 in
set_option maxHeartbeats 4000000 in
theorem some1_any (D ib lb nb : Nat) (lo hi : Int) (hlo : 0 ≤ lo) (hlh : lo ≤ hi) (hhi : hi ≤ 1000) (w : World) (hn : NxS D w ib lb) (hf : w.cell? ⟨nb, 0, none⟩ = some (.func (.func 114) #[] #[.pointer (some ⟨ib, 0, none⟩), .pointer (some ⟨lb, 0, none⟩)])) (hnb : nb ≠ ib) :
    Calls Try.prog 118 #[.agg #[.int .i64 lo, .int .i64 hi], .pointer (some ⟨nb, 0, none⟩)] w (OnePost D w ib lb lo hi) := by
  obtain ⟨W, hW⟩ : ∃ W, W = w.alloc (.cells #[.int .i64 lo, .int .i64 hi] 42) := ⟨_, rfl⟩
  obtain ⟨xb, hxb⟩ : ∃ b, b = w.heap.size := ⟨_, rfl⟩
  have hxh : W.heap[xb]? = some (.cells #[.int .i64 lo, .int .i64 hi] 42 (0, 0)) := by rw [hW, hxb]; exact heap_alloc_new _ _
  have bW : Below w.heap.size w W := by rw [hW]; exact (Below.refl _ _).alloc (Nat.le_refl _) _
  have hlt := hn.lt
  have hnl : nb < w.heap.size := World.block_lt_of_cell? _ _ hf
  have HX := Lib.hid (And.intro ((cell_of_heap hxh 0).trans rfl) (And.intro ((cell_of_heap hxh 1).trans rfl) (show xb ≠ ib by omega)))
  have HN := Lib.hid hnb
  have HR := Lib.hid (And.intro bW (And.intro (hn.below bW) ((bW.cell hnl).trans hf)))
  clear hxh bW hn hf hnb hlt hnl
  go_enter Try.func118, Try.ntmps118
  go_upto_region 1 with fail
  rw [← hW, ← hxb]
  clear hW hxb
  refine wp_region_steps (σ := Int × Int) (by kernel_rfl) (by kernel_rfl) (fun sg jx vx _ => SoV D W ib lb nb xb lo hi sg jx vx) (fun sg ly wx => SoW D W ib lb nb xb lo hi sg ly wx) (0, 0) ?_ ?_ ?_
  · exact ⟨FzW.start HR.out.2.1 HR.out.2.2, (fun h => by cases h), (fun h => by cases h)⟩
  · simp only [AllFrom, Nat.zero_add, Nat.reduceAdd]
    refine ⟨?_, ?_, ?_, ?_, ?_, ?_, ?_, ?_, ?_, ?_, ?_, ?_, ?_, ?_, ?_, ?_, ?_, trivial⟩
    · refine step_pure fun sg ly a wr hl hd hW hF => ?_
      have et2 := hF.old 2 (by kernel_rfl)
      simp [Act.eval] at et2
      exact ⟨by simpa [SoW, upd] using hW, .pointer (some ⟨xb, 0, none⟩), by go_simp, rfl⟩
    · refine step_pure fun sg ly a wr hl hd hW hF => ?_
      simp [Region.binds] at hd
      have et4 := hF.new 0 4 (by simp [hd]) rfl
      simp [SoV, Act.eval] at et4
      have c0 := hW.1.kp.cell HX.out.1 (by simpa using HX.out.2.2)
      exact ⟨by simpa [SoW, upd] using hW, _, by go_simp, rfl⟩
    · refine step_pure fun sg ly a wr hl hd hW hF => ?_
      have et1 := hF.old 1 (by kernel_rfl)
      simp [Act.eval] at et1
      have c0 := hW.1.fn
      exact ⟨by simpa [SoW, upd] using hW, _, by go_simp, rfl⟩
    · refine step_call fun sg ly a wr hl hd hW hF => ?_
      simp [Region.binds] at hd
      have et6 := hF.new 2 6 (by simp [hd]) rfl
      simp [SoV, Act.eval] at et6
      have n7 := hF.notYet 3 7 hl (by kernel_rfl)
      have n14_7 := hF.notYet 3 7 hl (by kernel_rfl)
      have n14 := hF.notYet 7 14 n14_7 (by kernel_rfl)
      have n15_7 := hF.notYet 3 7 hl (by kernel_rfl)
      have n15_14 := hF.notYet 7 14 n15_7 (by kernel_rfl)
      have n15 := hF.notYet 14 15 n15_14 (by kernel_rfl)
      have n16_7 := hF.notYet 3 7 hl (by kernel_rfl)
      have n16_14 := hF.notYet 7 14 n16_7 (by kernel_rfl)
      have n16_15 := hF.notYet 14 15 n16_14 (by kernel_rfl)
      have n16 := hF.notYet 15 16 n16_15 (by kernel_rfl)
      refine ⟨114, #[.int .i64 256, .pointer (some ⟨ib, 0, none⟩), .pointer (some ⟨lb, 0, none⟩)], by go_simp, ?_⟩
      refine (next_some 256 hW.1.nx (by decide)).mono ?_
      rintro e w2 ⟨x, rfl, x2, x3, x4, x5⟩
      refine ⟨_, (x, sg.2), rfl, ⟨hW.1.call x3 x4 HN.out, fun _ => x2, hW.2.2⟩, rfl, ?_⟩
      intro i u hi h
      have i0 : i ≠ 3 := by rintro rfl; rw [hl] at hi; cases hi
      have i7 : i ≠ 7 := by rintro rfl; rw [n7] at hi; cases hi
      have i14 : i ≠ 14 := by rintro rfl; rw [n14] at hi; cases hi
      have i15 : i ≠ 15 := by rintro rfl; rw [n15] at hi; cases hi
      have i16 : i ≠ 16 := by rintro rfl; rw [n16] at hi; cases hi
      unfold SoV at h ⊢
      split at h <;> first | exact h | exact absurd rfl i0 | exact absurd rfl i7 | exact absurd rfl i14 | exact absurd rfl i15 | exact absurd rfl i16
    · refine step_pure fun sg ly a wr hl hd hW hF => ?_
      have et1 := hF.old 1 (by kernel_rfl)
      simp [Act.eval] at et1
      have c0 := hW.1.fn
      exact ⟨by simpa [SoW, upd] using hW, _, by go_simp, rfl⟩
    · refine step_call fun sg ly a wr hl hd hW hF => ?_
      simp [Region.binds] at hd
      have et8 := hF.new 4 8 (by simp [hd]) rfl
      simp [SoV, Act.eval] at et8
      have n6 := hF.notYet 5 6 hl (by kernel_rfl)
      have n7_6 := hF.notYet 5 6 hl (by kernel_rfl)
      have n7 := hF.notYet 6 7 n7_6 (by kernel_rfl)
      have n14_6 := hF.notYet 5 6 hl (by kernel_rfl)
      have n14_7 := hF.notYet 6 7 n14_6 (by kernel_rfl)
      have n14 := hF.notYet 7 14 n14_7 (by kernel_rfl)
      have n15_6 := hF.notYet 5 6 hl (by kernel_rfl)
      have n15_7 := hF.notYet 6 7 n15_6 (by kernel_rfl)
      have n15_14 := hF.notYet 7 14 n15_7 (by kernel_rfl)
      have n15 := hF.notYet 14 15 n15_14 (by kernel_rfl)
      have n16_6 := hF.notYet 5 6 hl (by kernel_rfl)
      have n16_7 := hF.notYet 6 7 n16_6 (by kernel_rfl)
      have n16_14 := hF.notYet 7 14 n16_7 (by kernel_rfl)
      have n16_15 := hF.notYet 14 15 n16_14 (by kernel_rfl)
      have n16 := hF.notYet 15 16 n16_15 (by kernel_rfl)
      refine ⟨114, #[.int .i64 2, .pointer (some ⟨ib, 0, none⟩), .pointer (some ⟨lb, 0, none⟩)], by go_simp, ?_⟩
      refine (next_some 2 hW.1.nx (by decide)).mono ?_
      rintro e w2 ⟨x, rfl, x2, x3, x4, x5⟩
      refine ⟨_, (sg.1, x), rfl, ⟨hW.1.call x3 x4 HN.out, hW.2.1, fun _ => x2⟩, rfl, ?_⟩
      intro i u hi h
      have i0 : i ≠ 5 := by rintro rfl; rw [hl] at hi; cases hi
      have i6 : i ≠ 6 := by rintro rfl; rw [n6] at hi; cases hi
      have i7 : i ≠ 7 := by rintro rfl; rw [n7] at hi; cases hi
      have i14 : i ≠ 14 := by rintro rfl; rw [n14] at hi; cases hi
      have i15 : i ≠ 15 := by rintro rfl; rw [n15] at hi; cases hi
      have i16 : i ≠ 16 := by rintro rfl; rw [n16] at hi; cases hi
      unfold SoV at h ⊢
      split at h <;> first | exact h | exact absurd rfl i0 | exact absurd rfl i6 | exact absurd rfl i7 | exact absurd rfl i14 | exact absurd rfl i15 | exact absurd rfl i16
    · refine step_pure fun sg ly a wr hl hd hW hF => ?_
      simp [Region.binds] at hd
      have et9 := hF.new 5 9 (by simp [hd]) rfl
      simp [SoV, Act.eval] at et9
      have y3 : ly 5 = true := by simp [hd]
      obtain ⟨y4, y5⟩ := hW.2.2 y3
      have ew := IntWalk.i64_in (256 * sg.2) (by omega)
      exact ⟨by simpa [SoW, upd] using hW, .int .i64 (256 * sg.2), by go_simp, rfl⟩
    · refine step_pure fun sg ly a wr hl hd hW hF => ?_
      simp [Region.binds] at hd
      have et7 := hF.new 3 7 (by simp [hd]) rfl
      simp [SoV, Act.eval] at et7
      have et10 := hF.new 6 10 (by simp [hd]) rfl
      simp [SoV, Act.eval] at et10
      have y0 : ly 3 = true := by simp [hd]
      have y3 := hF.before 5 6 (by simp [hd]) (by kernel_rfl)
      obtain ⟨y1, y2⟩ := hW.2.1 y0
      obtain ⟨y4, y5⟩ := hW.2.2 y3
      have ew := IntWalk.i64_in (sg.1 + 256 * sg.2) (by omega)
      exact ⟨by simpa [SoW, upd] using hW, .int .i64 (sg.1 + 256 * sg.2), by go_simp, rfl⟩
    · refine step_pure fun sg ly a wr hl hd hW hF => ?_
      have et2 := hF.old 2 (by kernel_rfl)
      simp [Act.eval] at et2
      exact ⟨by simpa [SoW, upd] using hW, .pointer (some ⟨xb, 1, none⟩), by go_simp, rfl⟩
    · refine step_pure fun sg ly a wr hl hd hW hF => ?_
      simp [Region.binds] at hd
      have et12 := hF.new 8 12 (by simp [hd]) rfl
      simp [SoV, Act.eval] at et12
      have c0 := hW.1.kp.cell HX.out.2.1 (by simpa using HX.out.2.2)
      exact ⟨by simpa [SoW, upd] using hW, _, by go_simp, rfl⟩
    · refine step_pure fun sg ly a wr hl hd hW hF => ?_
      have et2 := hF.old 2 (by kernel_rfl)
      simp [Act.eval] at et2
      exact ⟨by simpa [SoW, upd] using hW, .pointer (some ⟨xb, 0, none⟩), by go_simp, rfl⟩
    · refine step_pure fun sg ly a wr hl hd hW hF => ?_
      simp [Region.binds] at hd
      have et14 := hF.new 10 14 (by simp [hd]) rfl
      simp [SoV, Act.eval] at et14
      have c0 := hW.1.kp.cell HX.out.1 (by simpa using HX.out.2.2)
      exact ⟨by simpa [SoW, upd] using hW, _, by go_simp, rfl⟩
    · refine step_pure fun sg ly a wr hl hd hW hF => ?_
      simp [Region.binds] at hd
      have et13 := hF.new 9 13 (by simp [hd]) rfl
      simp [SoV, Act.eval] at et13
      have et15 := hF.new 11 15 (by simp [hd]) rfl
      simp [SoV, Act.eval] at et15
      have ew := IntWalk.i64_in (hi - lo) (by omega)
      exact ⟨by simpa [SoW, upd] using hW, .int .i64 (hi - lo), by go_simp, rfl⟩
    · refine step_pure fun sg ly a wr hl hd hW hF => ?_
      simp [Region.binds] at hd
      have et16 := hF.new 12 16 (by simp [hd]) rfl
      simp [SoV, Act.eval] at et16
      have ew := IntWalk.i64_in (hi - lo + 1) (by omega)
      exact ⟨by simpa [SoW, upd] using hW, .int .i64 (hi - lo + 1), by go_simp, rfl⟩
    · refine step_pure fun sg ly a wr hl hd hW hF => ?_
      simp [Region.binds] at hd
      have et11 := hF.new 7 11 (by simp [hd]) rfl
      simp [SoV, Act.eval] at et11
      have et17 := hF.new 13 17 (by simp [hd]) rfl
      simp [SoV, Act.eval] at et17
      have y0 := hF.before 3 7 (by simp [hd]) (by kernel_rfl)
      have y3_6 := hF.before 6 7 (by simp [hd]) (by kernel_rfl)
      have y3 := hF.before 5 6 y3_6 (by kernel_rfl)
      obtain ⟨y1, y2⟩ := hW.2.1 y0
      obtain ⟨y4, y5⟩ := hW.2.2 y3
      have n0 : ¬ hi - lo + 1 = 0 := by omega
      obtain ⟨t1, t2⟩ := tmod_bd (a := sg.1 + 256 * sg.2) (b := hi - lo + 1) (by omega) (by omega)
      have ew := IntWalk.i64_in (Int.tmod (sg.1 + 256 * sg.2) (hi - lo + 1)) (by omega)
      obtain ⟨tq, htq⟩ : ∃ t, t = Int.tmod (sg.1 + 256 * sg.2) (hi - lo + 1) := ⟨_, rfl⟩
      exact ⟨by simpa [SoW, upd] using hW, _, by go_simp, rfl⟩
    · refine step_pure fun sg ly a wr hl hd hW hF => ?_
      simp [Region.binds] at hd
      have et5 := hF.new 1 5 (by simp [hd]) rfl
      simp [SoV, Act.eval] at et5
      have et18 := hF.new 14 18 (by simp [hd]) rfl
      simp [SoV, Act.eval] at et18
      have y0_7 := hF.before 7 14 (by simp [hd]) (by kernel_rfl)
      have y0 := hF.before 3 7 y0_7 (by kernel_rfl)
      have y3_7 := hF.before 7 14 (by simp [hd]) (by kernel_rfl)
      have y3_6 := hF.before 6 7 y3_7 (by kernel_rfl)
      have y3 := hF.before 5 6 y3_6 (by kernel_rfl)
      obtain ⟨y1, y2⟩ := hW.2.1 y0
      obtain ⟨y4, y5⟩ := hW.2.2 y3
      obtain ⟨t1, t2⟩ := tmod_bd (a := sg.1 + 256 * sg.2) (b := hi - lo + 1) (by omega) (by omega)
      have ew := IntWalk.i64_in (lo + Int.tmod (sg.1 + 256 * sg.2) (hi - lo + 1)) (by omega)
      exact ⟨by simpa [SoW, upd] using hW, .int .i64 (lo + Int.tmod (sg.1 + 256 * sg.2) (hi - lo + 1)), by go_simp, rfl⟩
    · refine step_pure fun sg ly a wr hl hd hW hF => ?_
      simp [Region.binds] at hd
      have et19 := hF.new 15 19 (by simp [hd]) rfl
      simp [SoV, Act.eval] at et19
      exact ⟨by simpa [SoW, upd] using hW, .int .i64 (lo + Int.tmod (sg.1 + 256 * sg.2) (hi - lo + 1)), by go_simp, rfl⟩
  intro sg a w5 hWW hF
  have e3 := hF.new 16 3 (by decide) rfl
  obtain ⟨f, hf, rfl⟩ := hF.lit
  rw [← hf] at e3
  simp only [SoV] at e3
  obtain ⟨y1, y2⟩ := hWW.2.1 rfl
  obtain ⟨y4, y5⟩ := hWW.2.2 rfl
  obtain ⟨t1, t2⟩ := tmod_bd (a := sg.1 + 256 * sg.2) (b := hi - lo + 1) (by omega) (by omega)
  obtain ⟨r, hr⟩ : ∃ r, r = lo + Int.tmod (sg.1 + 256 * sg.2) (hi - lo + 1) := ⟨_, rfl⟩
  rw [← hr] at e3
  have hrb : lo ≤ r ∧ r ≤ hi := by omega
  have H5 := Lib.hid (And.intro hrb (And.intro hWW.1.nx ((Keep.of_below (S := [ib]) HR.out.1).trans hWW.1.kp (fun z hz => .inl hz))))
  clear hf hF hWW y1 y2 y4 y5 t1 t2 hr hrb
  simp only [List.filterMap, List.foldl, List.setIfInBounds_toArray, List.set_cons_succ, List.set_cons_zero, e3]
  clear e3
  go_wp2_with fail
  go_ret
  exact ⟨r, rfl, H5.out.1, H5.out.2.1, H5.out.2.2⟩

end Go.Proofs.Ytfmhlnfcbbpfeaa
