/- PortJoins$1: a small map of numbers (printed by wip/tools/ptsome.py) -/
import Derived.Test.YthmldeningpjbaaPJp23
import Derived.Laws.EntriesVeiled
import Derived.Test.YthmldeningpjbaaPJp15
set_option linter.unusedVariables false
namespace Go.Proofs.Ythmldeningpjbaa
open Go Go.RowKit Sp Pt
set_option linter.unusedVariables false
set_option linter.unusedSimpArgs false

set_option linter.unusedVariables false
def SmV (W0 : World) (nb ib lb c0 k : Nat) (A : Option Addr) (l0 : List Int) (s : Nat) : Nat → Value → Prop
  | 0, v => v = .func (.func 70) #[] #[.pointer (some ⟨ib, 0, none⟩), .pointer (some ⟨lb, 0, none⟩)]
  | 1, v => v = .int .i64 (draw l0 k 201)
  | 2, v => v = .func (.func 70) #[] #[.pointer (some ⟨ib, 0, none⟩), .pointer (some ⟨lb, 0, none⟩)]
  | 3, v => v = .int .i64 (draw l0 (k + 1) 201)
  | 4, v => v = .int .i64 ((draw l0 k 201) - (draw l0 (k + 1) 201))
  | 5, v => v = .func (.func 70) #[] #[.pointer (some ⟨ib, 0, none⟩), .pointer (some ⟨lb, 0, none⟩)]
  | 6, v => v = .int .i64 (draw l0 (k + 2) 256)
  | 7, v => v = .func (.func 70) #[] #[.pointer (some ⟨ib, 0, none⟩), .pointer (some ⟨lb, 0, none⟩)]
  | 8, v => v = .int .i64 (draw l0 (k + 3) 256)
  | 9, v => v = .agg #[.int .i64 ((draw l0 k 201) - (draw l0 (k + 1) 201)), .int .i64 (draw l0 (k + 2) 256), .int .i64 (draw l0 (k + 3) 256)]
  | 10, v => v = .pointer (some ⟨s, 0, none⟩)
  | _, _ => True
def SmW (W0 : World) (nb ib lb c0 k : Nat) (A : Option Addr) (l0 : List Int) (s : Nat) (l : Nat → Bool) (w : World) : Prop := Keep [ib] W0 w ∧ DrawSt w ib lb A c0 l0 (k + (if l 1 then 1 else 0) + (if l 3 then 1 else 0) + (if l 6 then 1 else 0) + (if l 8 then 1 else 0)) ∧ (l 10 = true → w.heap[s]? = some (.cells (if l 11 then #[.int .i64 ((draw l0 k 201) - (draw l0 (k + 1) 201)), .int .i64 (draw l0 (k + 2) 256), .int .i64 (draw l0 (k + 3) 256)] else #[.int .i64 0, .int .i64 0, .int .i64 0]) 59 (0, 0)) ∧ W0.heap.size ≤ s)

set_option maxRecDepth 100000 in
set_option maxHeartbeats 4000000 in
theorem some_any (nb ib lb c0 k : Nat) (A : Option Addr) (l0 : List Int) (w : World) (hDr : DrawSt w ib lb A c0 l0 k) (hn : w.heap[nb]? = some (.cells #[.func (.func 70) #[] #[.pointer (some ⟨ib, 0, none⟩), .pointer (some ⟨lb, 0, none⟩)]] 38 (0, 0))) (hl0 : Bytes l0) (hm : l0.length ≤ 9223372036854775806) (hne : ib ≠ lb) (hA : 0 < l0.length → ∀ b off, A = some ⟨b, off, none⟩ → b ≠ ib) (hnb : nb ≠ ib ∧ nb ≠ lb) :
    Calls Try.prog 24 #[.pointer (some ⟨nb, 0, none⟩)] w fun e w' => ∃ m : Mp, e = .returned (mpV m) ∧ small m ∧ DrawSt w' ib lb A c0 l0 (k + 5) ∧ Keep [ib] w w' := by
  obtain ⟨W, hW⟩ : ∃ W, W = w.alloc (.cells #[.int .i64 0, .int .i64 0, .int .i64 0] 59) := ⟨_, rfl⟩
  obtain ⟨rb, hrb⟩ : ∃ b, b = w.heap.size := ⟨_, rfl⟩
  have kW : Keep [] w W := by rw [hW]; exact (Keep.refl _ _).alloc _
  have H4r : ¬ rb = ib := by have := heap_lt hDr.cnt; omega
  have hrl : ¬ rb = lb := by have := heap_lt hDr.lst; omega
  have hrw : w.heap.size ≤ rb := by omega
  have gr : W.heap[rb]? = some (.cells #[.int .i64 0, .int .i64 0, .int .i64 0] 59 (0, 0)) := by rw [hW, hrb]; exact heap_alloc_new _ _
  have q : W.cell? ⟨nb, 0, none⟩ = some (.func (.func 70) #[] #[.pointer (some ⟨ib, 0, none⟩), .pointer (some ⟨lb, 0, none⟩)]) := (cell_of_heap ((kW.block _ (heap_lt hn) (by simp)).trans hn) 0).trans rfl
  have zi := heap_lt hDr.cnt
  have zl := heap_lt hDr.lst
  have hAs : 0 < l0.length → ∀ b off, A = some ⟨b, off, none⟩ → b < w.heap.size := fun h0 b off e => by
    obtain ⟨b', o', e', hb, _⟩ := hDr.rd.2 h0
    rw [e] at e'
    injection e' with e'
    injection e' with e' _ _
    omega
  replace hDr := hDr.keep kW (by simp) (by simp) (by simp)
  have kWs := kW.size
  have t0 := draw_range (l := l0) k (n := 201) (by decide)
  have t1 := draw_range (l := l0) (k + 1) (n := 201) (by decide)
  have t2 := draw_range (l := l0) (k + 2) (n := 256) (by decide)
  have t3 := draw_range (l := l0) (k + 3) (n := 256) (by decide)
  have H := Lib.hid (And.intro kW (And.intro gr (And.intro hn hDr)))
  clear kW gr hn
  go_enter Try.func24, Try.ntmps24
  go_upto_region 1 with fail
  rw [← hW, ← hrb]
  clear hW hrb

  refine wp_region_steps (σ := Nat) (by kernel_rfl) (by kernel_rfl) (fun sg jx vx _ => SmV W nb ib lb c0 k A l0 sg jx vx) (fun sg ly wx => SmW W nb ib lb c0 k A l0 sg ly wx) 0 ?_ ?_ ?_
  · exact ⟨(Keep.refl _ _).drew, by simpa using (show DrawSt W.drew ib lb A c0 l0 k from hDr.keep ((Keep.refl [] _).drew) (by simp) (by simp) (by simp)), fun h => absurd h (by simp)⟩
  · simp only [AllFrom, Nat.zero_add, Nat.reduceAdd]
    refine ⟨?_, ?_, ?_, ?_, ?_, ?_, ?_, ?_, ?_, ?_, ?_, ?_, trivial⟩
    · refine step_pure fun sg ly a wr hl hd hW hF => ?_
      have et0 := hF.old 0 (by kernel_rfl)
      simp [Act.eval] at et0
      have c0 := hW.1.cell q (by simpa using hnb.1)
      exact ⟨by simpa [SmW, upd] using hW, .func (.func 70) #[] #[.pointer (some ⟨ib, 0, none⟩), .pointer (some ⟨lb, 0, none⟩)], by go_simp, rfl⟩
    · refine step_call fun sg ly a wr hl hd hW hF => ?_
      simp [Region.binds] at hd
      have et3 := hF.new 0 3 (by simp [hd]) rfl
      simp [SmV, Act.eval] at et3
      have n3 := hF.notYet 1 3 hl (by kernel_rfl)
      have n6_3 := hF.notYet 1 3 hl (by kernel_rfl)
      have n6 := hF.notYet 3 6 n6_3 (by kernel_rfl)
      have n8_3 := hF.notYet 1 3 hl (by kernel_rfl)
      have n8_6 := hF.notYet 3 6 n8_3 (by kernel_rfl)
      have n8 := hF.notYet 6 8 n8_6 (by kernel_rfl)
      have hD := hW.2.1
      simp [hl, n3, n6, n8] at hD
      refine ⟨70, #[.int .i64 201, .pointer (some ⟨ib, 0, none⟩), .pointer (some ⟨lb, 0, none⟩)], by go_simp, ?_⟩
      refine (next_any ib lb A c0 l0 k 201 wr hD hl0 hm hne hA (by decide)).mono ?_
      rintro e w2 ⟨rfl, hd2, hk2, hs2⟩
      refine ⟨_, sg, rfl, ⟨hW.1.trans hk2 (by simp), by simpa [upd, hl, n3, n6, n8] using hd2, fun h => ⟨(hk2.block _ (heap_lt (hW.2.2 (by simpa [upd] using h)).1) (by simp; have := (hW.2.2 (by simpa [upd] using h)).2; omega)).trans (by simpa [upd] using (hW.2.2 (by simpa [upd] using h)).1), (hW.2.2 (by simpa [upd] using h)).2⟩⟩, rfl, fun _ _ _ h => h⟩
    · refine step_pure fun sg ly a wr hl hd hW hF => ?_
      have et0 := hF.old 0 (by kernel_rfl)
      simp [Act.eval] at et0
      have c0 := hW.1.cell q (by simpa using hnb.1)
      exact ⟨by simpa [SmW, upd] using hW, .func (.func 70) #[] #[.pointer (some ⟨ib, 0, none⟩), .pointer (some ⟨lb, 0, none⟩)], by go_simp, rfl⟩
    · refine step_call fun sg ly a wr hl hd hW hF => ?_
      simp [Region.binds] at hd
      have et5 := hF.new 2 5 (by simp [hd]) rfl
      simp [SmV, Act.eval] at et5
      have y1 : ly 1 = true := by simp [hd]
      have n6 := hF.notYet 3 6 hl (by kernel_rfl)
      have n8_6 := hF.notYet 3 6 hl (by kernel_rfl)
      have n8 := hF.notYet 6 8 n8_6 (by kernel_rfl)
      have hD := hW.2.1
      simp [hl, y1, n6, n8] at hD
      refine ⟨70, #[.int .i64 201, .pointer (some ⟨ib, 0, none⟩), .pointer (some ⟨lb, 0, none⟩)], by go_simp, ?_⟩
      refine (next_any ib lb A c0 l0 (k + 1) 201 wr hD hl0 hm hne hA (by decide)).mono ?_
      rintro e w2 ⟨rfl, hd2, hk2, hs2⟩
      refine ⟨_, sg, rfl, ⟨hW.1.trans hk2 (by simp), by simpa [upd, hl, y1, n6, n8] using hd2, fun h => ⟨(hk2.block _ (heap_lt (hW.2.2 (by simpa [upd] using h)).1) (by simp; have := (hW.2.2 (by simpa [upd] using h)).2; omega)).trans (by simpa [upd] using (hW.2.2 (by simpa [upd] using h)).1), (hW.2.2 (by simpa [upd] using h)).2⟩⟩, rfl, fun _ _ _ h => h⟩
    · refine step_pure fun sg ly a wr hl hd hW hF => ?_
      simp [Region.binds] at hd
      have et4 := hF.new 1 4 (by simp [hd]) rfl
      simp [SmV, Act.eval] at et4
      have et6 := hF.new 3 6 (by simp [hd]) rfl
      simp [SmV, Act.eval] at et6
      have ew := IntWalk.i64_in ((draw l0 k 201) - (draw l0 (k + 1) 201)) (by omega)
      exact ⟨by simpa [SmW, upd] using hW, .int .i64 ((draw l0 k 201) - (draw l0 (k + 1) 201)), by go_simp, rfl⟩
    · refine step_pure fun sg ly a wr hl hd hW hF => ?_
      have et0 := hF.old 0 (by kernel_rfl)
      simp [Act.eval] at et0
      have c0 := hW.1.cell q (by simpa using hnb.1)
      exact ⟨by simpa [SmW, upd] using hW, .func (.func 70) #[] #[.pointer (some ⟨ib, 0, none⟩), .pointer (some ⟨lb, 0, none⟩)], by go_simp, rfl⟩
    · refine step_call fun sg ly a wr hl hd hW hF => ?_
      simp [Region.binds] at hd
      have et8 := hF.new 5 8 (by simp [hd]) rfl
      simp [SmV, Act.eval] at et8
      have y1 := hF.before 1 3 (by simp [hd]) (by kernel_rfl)
      have y3 : ly 3 = true := by simp [hd]
      have n8 := hF.notYet 6 8 hl (by kernel_rfl)
      have hD := hW.2.1
      simp [hl, y1, y3, n8] at hD
      refine ⟨70, #[.int .i64 256, .pointer (some ⟨ib, 0, none⟩), .pointer (some ⟨lb, 0, none⟩)], by go_simp, ?_⟩
      refine (next_any ib lb A c0 l0 (k + 2) 256 wr hD hl0 hm hne hA (by decide)).mono ?_
      rintro e w2 ⟨rfl, hd2, hk2, hs2⟩
      refine ⟨_, sg, rfl, ⟨hW.1.trans hk2 (by simp), by simpa [upd, hl, y1, y3, n8] using hd2, fun h => ⟨(hk2.block _ (heap_lt (hW.2.2 (by simpa [upd] using h)).1) (by simp; have := (hW.2.2 (by simpa [upd] using h)).2; omega)).trans (by simpa [upd] using (hW.2.2 (by simpa [upd] using h)).1), (hW.2.2 (by simpa [upd] using h)).2⟩⟩, rfl, fun _ _ _ h => h⟩
    · refine step_pure fun sg ly a wr hl hd hW hF => ?_
      have et0 := hF.old 0 (by kernel_rfl)
      simp [Act.eval] at et0
      have c0 := hW.1.cell q (by simpa using hnb.1)
      exact ⟨by simpa [SmW, upd] using hW, .func (.func 70) #[] #[.pointer (some ⟨ib, 0, none⟩), .pointer (some ⟨lb, 0, none⟩)], by go_simp, rfl⟩
    · refine step_call fun sg ly a wr hl hd hW hF => ?_
      simp [Region.binds] at hd
      have et10 := hF.new 7 10 (by simp [hd]) rfl
      simp [SmV, Act.eval] at et10
      have y1_3 := hF.before 3 6 (by simp [hd]) (by kernel_rfl)
      have y1 := hF.before 1 3 y1_3 (by kernel_rfl)
      have y3 := hF.before 3 6 (by simp [hd]) (by kernel_rfl)
      have y6 : ly 6 = true := by simp [hd]
      have hD := hW.2.1
      simp [hl, y1, y3, y6] at hD
      refine ⟨70, #[.int .i64 256, .pointer (some ⟨ib, 0, none⟩), .pointer (some ⟨lb, 0, none⟩)], by go_simp, ?_⟩
      refine (next_any ib lb A c0 l0 (k + 3) 256 wr hD hl0 hm hne hA (by decide)).mono ?_
      rintro e w2 ⟨rfl, hd2, hk2, hs2⟩
      refine ⟨_, sg, rfl, ⟨hW.1.trans hk2 (by simp), by simpa [upd, hl, y1, y3, y6] using hd2, fun h => ⟨(hk2.block _ (heap_lt (hW.2.2 (by simpa [upd] using h)).1) (by simp; have := (hW.2.2 (by simpa [upd] using h)).2; omega)).trans (by simpa [upd] using (hW.2.2 (by simpa [upd] using h)).1), (hW.2.2 (by simpa [upd] using h)).2⟩⟩, rfl, fun _ _ _ h => h⟩
    · refine step_pure fun sg ly a wr hl hd hW hF => ?_
      simp [Region.binds] at hd
      have et7 := hF.new 4 7 (by simp [hd]) rfl
      simp [SmV, Act.eval] at et7
      have et9 := hF.new 6 9 (by simp [hd]) rfl
      simp [SmV, Act.eval] at et9
      have et11 := hF.new 8 11 (by simp [hd]) rfl
      simp [SmV, Act.eval] at et11
      exact ⟨by simpa [SmW, upd] using hW, .agg #[.int .i64 ((draw l0 k 201) - (draw l0 (k + 1) 201)), .int .i64 (draw l0 (k + 2) 256), .int .i64 (draw l0 (k + 3) 256)], by go_simp, rfl⟩
    · refine step_run fun sg ly a wr hl hd hW hF => ?_
      have n11 := hF.notYet 10 11 hl (by kernel_rfl)
      refine ⟨_, wr.alloc (.cells #[.int .i64 0, .int .i64 0, .int .i64 0] 59), wr.heap.size, by go_simp, ⟨hW.1.alloc _, by simpa [upd] using hW.2.1.keep ((Keep.refl [] _).alloc _) (by simp) (by simp) (by simp), fun _ => ⟨by rw [if_neg (by simp [upd, n11])]; exact heap_alloc_new _ _, hW.1.size⟩⟩, rfl, ?_⟩
      intro i u hi h
      have i2 : i ≠ 10 := by rintro rfl; rw [hl] at hi; cases hi
      unfold SmV at h ⊢
      split at h <;> first | exact h | exact absurd rfl i2
    · refine step_store rfl fun sg ly a wr hl hd hW hF => ?_
      simp [Region.binds] at hd
      have et2 := hF.new 10 2 (by simp [hd]) rfl
      simp [SmV, Act.eval] at et2
      have et12 := hF.new 9 12 (by simp [hd]) rfl
      simp [SmV, Act.eval] at et12
      have y10 : ly 10 = true := by simp [hd]
      obtain ⟨hk, hD, h10⟩ := hW
      obtain ⟨hh, hs⟩ := h10 y10
      rw [if_neg (by simp [hl])] at hh
      have c0 := (cell_of_heap hh 0).trans rfl
      have c1 := (cell_of_heap hh 1).trans rfl
      have c2 := (cell_of_heap hh 2).trans rfl
      have f0 := frozen_of_heap hh 0
      have f1 := frozen_of_heap hh 1
      have f2 := frozen_of_heap hh 2
      have z0 := heap_lt hh
      have kS : Keep [sg] wr (((wr.setCell ⟨sg, 0, none⟩ (.int .i64 ((draw l0 k 201) - (draw l0 (k + 1) 201)))).setCell ⟨sg, 1, none⟩ (.int .i64 (draw l0 (k + 2) 256))).setCell ⟨sg, 2, none⟩ (.int .i64 (draw l0 (k + 3) 256))) := (((Keep.refl _ _).setCell (.inl (by simp)) _).setCell (.inl (by simp)) _).setCell (.inl (by simp)) _
      refine ⟨((wr.setCell ⟨sg, 0, none⟩ (.int .i64 ((draw l0 k 201) - (draw l0 (k + 1) 201)))).setCell ⟨sg, 1, none⟩ (.int .i64 (draw l0 (k + 2) 256))).setCell ⟨sg, 2, none⟩ (.int .i64 (draw l0 (k + 3) 256)), sg, .skip, by go_simp, .inl rfl, ⟨hk.trans kS (by simp; omega), by simpa [upd] using hD.keep kS (by simp; omega) (by simp; omega) (fun h0 b off e => by have := hAs h0 b off e; simp; omega), fun _ => ⟨by rw [if_pos (by simp [upd])]; exact st3_heap' hh _ _ _, hs⟩⟩, fun _ _ _ h => h⟩
  intro sg a w2 hWW hF
  have e2 := hF.new 10 2 (by decide) rfl
  obtain ⟨f3, hf3, rfl⟩ := hF.lit
  rw [← hf3] at e2
  simp only [SmV] at e2
  obtain ⟨kp, hD, o1⟩ := hWW
  obtain ⟨o1, o2⟩ := o1 (by simp)
  rw [if_pos (by simp)] at o1
  have hD4 : DrawSt w2 ib lb A c0 l0 (k + 4) := by simpa using hD
  clear hf3 hF hD
  simp only [List.filterMap, List.foldl, List.setIfInBounds_toArray, List.set_cons_succ, List.set_cons_zero, e2]
  clear e2
  have hnbW := World.block_lt_of_cell? _ _ q
  have hrbW := heap_lt H.out.2.1
  simp only at hnbW o2
  have hsi : sg ≠ ib ∧ sg ≠ lb ∧ sg ≠ rb ∧ nb ≠ sg := by omega
  have hri := H4r
  have kn := next_any ib lb A c0 l0 (k + 4) 6 w2 hD4 hl0 hm hne hA (by decide)
  have q2 := kp.cell q (by simpa using hnb.1)
  have gr2 := (kp.block _ (heap_lt H.out.2.1) (by simp; exact hri)).trans H.out.2.1
  obtain ⟨x, hx⟩ : ∃ x, x = draw l0 k 201 - draw l0 (k + 1) 201 := ⟨_, rfl⟩
  obtain ⟨y, hy⟩ : ∃ y, y = draw l0 (k + 2) 256 := ⟨_, rfl⟩
  obtain ⟨z, hz⟩ : ∃ z, z = draw l0 (k + 3) 256 := ⟨_, rfl⟩
  obtain ⟨d, hd⟩ : ∃ d, d = draw l0 (k + 4) 6 := ⟨_, rfl⟩
  rw [← hx, ← hy, ← hz] at o1
  have hsm : -200 ≤ x ∧ x ≤ 200 ∧ 0 ≤ y ∧ y ≤ 255 ∧ 0 ≤ z ∧ z ≤ 255 := by omega
  have HN := Lib.hid (And.intro kn (And.intro o1 (And.intro gr2 (And.intro kp hd))))
  have HS := Lib.hid hsm
  clear kn o1 gr2 kp hx hy hz hsm hD4 q t0 t1 t2 t3
  go_upto_region 3 with (refine HN.out.1.mono ?_; rintro e w3 ⟨rfl, d3, k3, s3⟩; have H3 := Lib.hid (And.intro d3 k3); clear d3 k3)
  have g3 := (H3.out.2.block _ (heap_lt HN.out.2.1) (by simp; exact hsi.1)).trans HN.out.2.1
  have gr3 := (H3.out.2.block _ (heap_lt HN.out.2.2.1) (by simp; exact hri)).trans HN.out.2.2.1
  rw [← HN.out.2.2.2.2]
  have x0 : w3.cell? ⟨sg, 0, none⟩ = some (.int .i64 x) := (cell_of_heap g3 0).trans rfl
  have x1 : w3.cell? ⟨sg, 1, none⟩ = some (.int .i64 y) := (cell_of_heap g3 1).trans rfl
  have x2 : w3.cell? ⟨sg, 2, none⟩ = some (.int .i64 z) := (cell_of_heap g3 2).trans rfl
  have xf := frozen_of_heap g3 2
  have zs := heap_lt g3
  have d0 := (cell_of_heap gr3 0).trans rfl
  have d1 := (cell_of_heap gr3 1).trans rfl
  have d2 := (cell_of_heap gr3 2).trans rfl
  have f0 := frozen_of_heap gr3 0
  have f1 := frozen_of_heap gr3 1
  have f2 := frozen_of_heap gr3 2
  have zr := heap_lt gr3
  have HG := Lib.hid (And.intro g3 gr3)
  clear g3 gr3 q2
  have zib := H3.out.1
  have hfin : ∀ (mo : Int) (X : World), (mo = -1 ∨ mo = NL ∨ (0 ≤ mo ∧ mo ≤ 255)) → Keep [sg] w3 X → X.heap[rb]? = some (.cells #[.int .i64 0, .int .i64 0, .int .i64 0] 59 (0, 0)) →
      ∃ m : Mp, (Ending.returned (mpV ⟨x, y, mo⟩)) = .returned (mpV m) ∧ small m ∧ DrawSt (((X.setCell ⟨rb, 0, none⟩ (.int .i64 x)).setCell ⟨rb, 1, none⟩ (.int .i64 y)).setCell ⟨rb, 2, none⟩ (.int .i64 mo)) ib lb A c0 l0 (k + 5) ∧ Keep [ib] w (((X.setCell ⟨rb, 0, none⟩ (.int .i64 x)).setCell ⟨rb, 1, none⟩ (.int .i64 y)).setCell ⟨rb, 2, none⟩ (.int .i64 mo)) := by
    intro mo X hmo kX rX
    have kF : Keep [sg, rb] w3 (((X.setCell ⟨rb, 0, none⟩ (.int .i64 x)).setCell ⟨rb, 1, none⟩ (.int .i64 y)).setCell ⟨rb, 2, none⟩ (.int .i64 mo)) := (((kX.mono (S' := [sg, rb]) (fun g hg => .inl (by simp at hg; simp [hg]))).setCell (.inl (by simp)) _).setCell (.inl (by simp)) _).setCell (.inl (by simp)) _
    refine ⟨⟨x, y, mo⟩, rfl, ⟨HS.out.1, HS.out.2.1, HS.out.2.2.1, HS.out.2.2.2.1, hmo⟩, H3.out.1.keep kF (by simp; exact ⟨fun e => hsi.1 e.symm, fun e => hri e.symm⟩) (by simp; exact ⟨fun e => hsi.2.1 e.symm, fun e => hrl e.symm⟩) (fun h0 b off e => by have h1 := hAs h0 b off e; simp only [List.mem_cons, List.not_mem_nil, or_false]; omega), ?_⟩
    refine (((H.out.1.mono (S' := [ib]) (by simp)).trans HN.out.2.2.2.1 (fun g hg => .inl hg)).trans H3.out.2 (fun g hg => .inl hg)).trans kF ?_
    intro g hg
    rcases List.mem_cons.1 hg with e | e
    · exact .inr (by omega)
    · rw [List.mem_singleton.1 e]; exact .inr hrw
  have H5 := Lib.hid hfin
  clear hfin
  by_cases e0 : d = 0
  · subst e0
    go_upto_region 7 with fail
    obtain ⟨X, hX⟩ : ∃ X, X = w3.setCell ⟨sg, 2, none⟩ (.int .i64 (-1)) := ⟨_, rfl⟩
    have kX : Keep [sg] w3 X := by rw [hX]; exact (Keep.refl _ _).setCell (.inl (by simp)) _
    have gX : X.heap[sg]? = some (.cells #[.int .i64 x, .int .i64 y, .int .i64 (-1)] 59 (0, 0)) := by rw [hX]; exact heap_set HG.out.1 2 _
    have rX := (kX.block _ (heap_lt HG.out.2) (by simp; exact fun e => hsi.2.2.1 e.symm)).trans HG.out.2
    rw [← hX]
    have y0 : X.cell? ⟨sg, 0, none⟩ = some (.int .i64 x) := (cell_of_heap gX 0).trans rfl
    have y1 : X.cell? ⟨sg, 1, none⟩ = some (.int .i64 y) := (cell_of_heap gX 1).trans rfl
    have y2 : X.cell? ⟨sg, 2, none⟩ = some (.int .i64 (-1)) := (cell_of_heap gX 2).trans rfl
    have u0 := (cell_of_heap rX 0).trans rfl
    have u1 := (cell_of_heap rX 1).trans rfl
    have u2 := (cell_of_heap rX 2).trans rfl
    have v0 := frozen_of_heap rX 0
    have v1 := frozen_of_heap rX 1
    have v2 := frozen_of_heap rX 2
    have zx := heap_lt gX
    have zy := heap_lt rX
    have HX := Lib.hid (And.intro kX rX)
    clear kX rX gX hX x0 x1 x2 xf zs d0 d1 d2 f0 f1 f2 zr
    go_wp2_with fail
    refine bodyPost_ret (mp_results (r := 1) rfl (b := rb) (m := ⟨x, y, -1⟩) (st3_heap' HX.out.2 _ _ _) _ rfl) rfl ?_
    exact H5.out _ _ (.inl rfl) HX.out.1 HX.out.2
  · by_cases e1 : d = 1
    · subst e1
      go_upto_region 7 with fail
      obtain ⟨X, hX⟩ : ∃ X, X = w3.setCell ⟨sg, 2, none⟩ (.int .i64 (1000000000)) := ⟨_, rfl⟩
      have kX : Keep [sg] w3 X := by rw [hX]; exact (Keep.refl _ _).setCell (.inl (by simp)) _
      have gX : X.heap[sg]? = some (.cells #[.int .i64 x, .int .i64 y, .int .i64 (1000000000)] 59 (0, 0)) := by rw [hX]; exact heap_set HG.out.1 2 _
      have rX := (kX.block _ (heap_lt HG.out.2) (by simp; exact fun e => hsi.2.2.1 e.symm)).trans HG.out.2
      rw [← hX]
      have y0 : X.cell? ⟨sg, 0, none⟩ = some (.int .i64 x) := (cell_of_heap gX 0).trans rfl
      have y1 : X.cell? ⟨sg, 1, none⟩ = some (.int .i64 y) := (cell_of_heap gX 1).trans rfl
      have y2 : X.cell? ⟨sg, 2, none⟩ = some (.int .i64 (1000000000)) := (cell_of_heap gX 2).trans rfl
      have u0 := (cell_of_heap rX 0).trans rfl
      have u1 := (cell_of_heap rX 1).trans rfl
      have u2 := (cell_of_heap rX 2).trans rfl
      have v0 := frozen_of_heap rX 0
      have v1 := frozen_of_heap rX 1
      have v2 := frozen_of_heap rX 2
      have zx := heap_lt gX
      have zy := heap_lt rX
      have HX := Lib.hid (And.intro kX rX)
      clear kX rX gX hX x0 x1 x2 xf zs d0 d1 d2 f0 f1 f2 zr
      go_wp2_with fail
      refine bodyPost_ret (mp_results (r := 1) rfl (b := rb) (m := ⟨x, y, 1000000000⟩) (st3_heap' HX.out.2 _ _ _) _ rfl) rfl ?_
      exact H5.out _ _ (.inr (.inl rfl)) HX.out.1 HX.out.2
    · go_upto_region 7 with fail
      obtain ⟨X, hX⟩ : ∃ X, X = w3 := ⟨_, rfl⟩
      have kX : Keep [sg] w3 X := by rw [hX]; exact Keep.refl _ _
      have gX : X.heap[sg]? = some (.cells #[.int .i64 x, .int .i64 y, .int .i64 (z)] 59 (0, 0)) := by rw [hX]; exact HG.out.1
      have rX := (kX.block _ (heap_lt HG.out.2) (by simp; exact fun e => hsi.2.2.1 e.symm)).trans HG.out.2
      rw [← hX]
      have y0 : X.cell? ⟨sg, 0, none⟩ = some (.int .i64 x) := (cell_of_heap gX 0).trans rfl
      have y1 : X.cell? ⟨sg, 1, none⟩ = some (.int .i64 y) := (cell_of_heap gX 1).trans rfl
      have y2 : X.cell? ⟨sg, 2, none⟩ = some (.int .i64 (z)) := (cell_of_heap gX 2).trans rfl
      have u0 := (cell_of_heap rX 0).trans rfl
      have u1 := (cell_of_heap rX 1).trans rfl
      have u2 := (cell_of_heap rX 2).trans rfl
      have v0 := frozen_of_heap rX 0
      have v1 := frozen_of_heap rX 1
      have v2 := frozen_of_heap rX 2
      have zx := heap_lt gX
      have zy := heap_lt rX
      have HX := Lib.hid (And.intro kX rX)
      clear kX rX gX hX x0 x1 x2 xf zs d0 d1 d2 f0 f1 f2 zr
      go_wp2_with fail
      refine bodyPost_ret (mp_results (r := 1) rfl (b := rb) (m := ⟨x, y, z⟩) (st3_heap' HX.out.2 _ _ _) _ rfl) rfl ?_
      exact H5.out _ _ (.inr (.inr ⟨HS.out.2.2.2.2.1, HS.out.2.2.2.2.2⟩)) HX.out.1 HX.out.2

end Go.Proofs.Ythmldeningpjbaa
/- port.Join -/
namespace Go.Proofs.Ythmldeningpjbaa
open Go Go.RowKit Sp Pt
set_option linter.unusedVariables false
set_option linter.unusedSimpArgs false

set_option maxRecDepth 100000 in
set_option maxHeartbeats 4000000 in
theorem Join_any (a m : Mp) (w : World) :
    Calls Try.prog 25 #[mpV a, mpV m] w fun e w' => e = .returned (.tuple #[mpV (joinV a m), .int .i64 (joinE a m)]) ∧ Below w.heap.size w w' := by
  obtain ⟨W, hW⟩ : ∃ W, W = ((w.alloc (.cells #[.int .i64 a.add, .int .i64 a.floor, .int .i64 a.most] 59)).alloc (.cells #[.int .i64 m.add, .int .i64 m.floor, .int .i64 m.most] 59)).alloc (.cells #[.int .i64 0, .int .i64 0, .int .i64 0] 59) := ⟨_, rfl⟩
  obtain ⟨b1, h1⟩ : ∃ b, b = w.heap.size := ⟨_, rfl⟩
  obtain ⟨b2, h2⟩ : ∃ b, b = w.heap.size + 1 := ⟨_, rfl⟩
  obtain ⟨rb, h3⟩ : ∃ b, b = w.heap.size + 1 + 1 := ⟨_, rfl⟩
  have g1 : W.heap[b1]? = some (.cells #[.int .i64 a.add, .int .i64 a.floor, .int .i64 a.most] 59 (0, 0)) := by rw [hW, h1]; exact heap_alloc' (heap_alloc' (heap_alloc_new _ _) _) _
  have g2 : W.heap[b2]? = some (.cells #[.int .i64 m.add, .int .i64 m.floor, .int .i64 m.most] 59 (0, 0)) := by
    rw [hW, h2]
    refine heap_alloc' ?_ _
    have := heap_alloc_new (w.alloc (.cells #[.int .i64 a.add, .int .i64 a.floor, .int .i64 a.most] 59)) (.cells #[.int .i64 m.add, .int .i64 m.floor, .int .i64 m.most] 59)
    rwa [World.size_alloc] at this
  have g3 : W.heap[rb]? = some (.cells #[.int .i64 0, .int .i64 0, .int .i64 0] 59 (0, 0)) := by
    rw [hW, h3]
    have := heap_alloc_new ((w.alloc (.cells #[.int .i64 a.add, .int .i64 a.floor, .int .i64 a.most] 59)).alloc (.cells #[.int .i64 m.add, .int .i64 m.floor, .int .i64 m.most] 59)) (.cells #[.int .i64 0, .int .i64 0, .int .i64 0] 59)
    rwa [World.size_alloc, World.size_alloc] at this
  have b0 : Below w.heap.size w W := by rw [hW]; exact (((Below.refl _ _).alloc (Nat.le_refl _) _).alloc (by simp) _).alloc (by simp; omega) _
  have hrw : w.heap.size ≤ rb := by omega
  have F : ∀ wx, Below W.heap.size W wx → (∀ j u, (#[Value.int .i64 a.add, .int .i64 a.floor, .int .i64 a.most] : Array Value)[j]? = some u → wx.cell? ⟨b1, j, none⟩ = some u) ∧ (∀ j u, (#[Value.int .i64 m.add, .int .i64 m.floor, .int .i64 m.most] : Array Value)[j]? = some u → wx.cell? ⟨b2, j, none⟩ = some u) ∧ wx.heap[rb]? = some (.cells #[.int .i64 0, .int .i64 0, .int .i64 0] 59 (0, 0)) ∧ b1 < wx.heap.size ∧ b2 < wx.heap.size := fun wx b =>
    ⟨fun j u hu => (cell_of_heap ((b.block _ (heap_lt g1)).trans g1) j).trans hu, fun j u hu => (cell_of_heap ((b.block _ (heap_lt g2)).trans g2) j).trans hu, (b.block _ (heap_lt g3)).trans g3, Nat.lt_of_lt_of_le (heap_lt g1) b.size, Nat.lt_of_lt_of_le (heap_lt g2) b.size⟩
  obtain ⟨ra, hra⟩ : ∃ r, r = mright a := ⟨_, rfl⟩
  obtain ⟨rm, hrm⟩ : ∃ r, r = mright m := ⟨_, rfl⟩
  have ka : ∀ wx, Calls Try.prog 78 #[.agg #[.int .i64 a.add, .int .i64 a.floor, .int .i64 a.most]] wx fun e w' => e = .returned (.bool ra) ∧ Below wx.heap.size wx w' := fun wx => by rw [hra]; exact mpRight_any a wx
  have km : ∀ wx, Calls Try.prog 78 #[.agg #[.int .i64 m.add, .int .i64 m.floor, .int .i64 m.most]] wx fun e w' => e = .returned (.bool rm) ∧ Below wx.heap.size wx w' := fun wx => by rw [hrm]; exact mpRight_any m wx
  obtain ⟨p0, p1, p2⟩ : W.cell? ⟨b1, 0, none⟩ = some (.int .i64 a.add) ∧ W.cell? ⟨b1, 1, none⟩ = some (.int .i64 a.floor) ∧ W.cell? ⟨b1, 2, none⟩ = some (.int .i64 a.most) := ⟨(F W (Below.refl _ _)).1 0 _ rfl, (F W (Below.refl _ _)).1 1 _ rfl, (F W (Below.refl _ _)).1 2 _ rfl⟩
  have z1 := heap_lt g1
  have z2 := heap_lt g2
  have z3 := heap_lt g3
  have H := Lib.hid (And.intro b0 (And.intro F (And.intro hra (And.intro hrm (And.intro ka km)))))
  clear b0 F hra hrm ka km g1 g2 g3
  simp only [mpV]
  go_enter Try.func25, Try.ntmps25
  go_upto_region 1 with fail
  rw [← hW, ← h3, ← h2, ← h1]
  clear hW h1 h2 h3
  cases ra
  · go_wp2_with (go_at_call 78; refine (H.out.2.2.2.2.1 _).mono ?_; rintro e w2 ⟨rfl, c2⟩; have HFw2 := Lib.hid c2; have q0 := (H.out.2.1 w2 c2).1 0 _ rfl; have q1 := (H.out.2.1 w2 c2).1 1 _ rfl; have q2 := (H.out.2.1 w2 c2).1 2 _ rfl; have r0 := (H.out.2.1 w2 c2).2.1 0 _ rfl; have r1 := (H.out.2.1 w2 c2).2.1 1 _ rfl; have r2 := (H.out.2.1 w2 c2).2.1 2 _ rfl; have hr := (H.out.2.1 w2 c2).2.2.1; have f0 := frozen_of_heap hr 0; have f1 := frozen_of_heap hr 1; have f2 := frozen_of_heap hr 2; have d0 := (cell_of_heap hr 0).trans rfl; have d1 := (cell_of_heap hr 1).trans rfl; have d2 := (cell_of_heap hr 2).trans rfl; have zr := heap_lt hr; have za := (H.out.2.1 w2 c2).2.2.2.1; have zb := (H.out.2.1 w2 c2).2.2.2.2; clear hr; clear c2)
    refine bodyPost_ret (mp_results2 (r := 4) (s := 5) rfl (b := rb) (m := ⟨0, 0, 0⟩) (st3_heap' (H.out.2.1 w2 HFw2.out).2.2.1 _ _ _) _ (.int .i64 1) rfl rfl) rfl ⟨?_, (((H.out.1.trans (HFw2.out.mono H.out.1.size)).setCell hrw _).setCell hrw _).setCell hrw _⟩
    have e : joinE a m = 1 := by unfold joinE; rw [if_pos (.inl H.out.2.2.1.symm)]
    have e2 : joinV a m = ⟨0, 0, 0⟩ := by unfold joinV; rw [if_neg (by rw [e]; decide)]
    rw [e, e2]
  · cases rm
    · go_wp2_with (first | (go_at_call 78; have bb := HFw2; clear bb; refine (H.out.2.2.2.2.2 _).mono ?_; rintro e w3 ⟨rfl, c3'⟩; have c3 := HFw2.out.trans (c3'.mono HFw2.out.size); have HFw3 := Lib.hid c3; have q0 := (H.out.2.1 w3 c3).1 0 _ rfl; have q1 := (H.out.2.1 w3 c3).1 1 _ rfl; have q2 := (H.out.2.1 w3 c3).1 2 _ rfl; have r0 := (H.out.2.1 w3 c3).2.1 0 _ rfl; have r1 := (H.out.2.1 w3 c3).2.1 1 _ rfl; have r2 := (H.out.2.1 w3 c3).2.1 2 _ rfl; have hr := (H.out.2.1 w3 c3).2.2.1; have f0 := frozen_of_heap hr 0; have f1 := frozen_of_heap hr 1; have f2 := frozen_of_heap hr 2; have d0 := (cell_of_heap hr 0).trans rfl; have d1 := (cell_of_heap hr 1).trans rfl; have d2 := (cell_of_heap hr 2).trans rfl; have zr := heap_lt hr; have za := (H.out.2.1 w3 c3).2.2.2.1; have zb := (H.out.2.1 w3 c3).2.2.2.2; clear hr; clear c3 c3') | (go_at_call 78; refine (H.out.2.2.2.2.1 _).mono ?_; rintro e w2 ⟨rfl, c2⟩; have HFw2 := Lib.hid c2; have q0 := (H.out.2.1 w2 c2).1 0 _ rfl; have q1 := (H.out.2.1 w2 c2).1 1 _ rfl; have q2 := (H.out.2.1 w2 c2).1 2 _ rfl; have r0 := (H.out.2.1 w2 c2).2.1 0 _ rfl; have r1 := (H.out.2.1 w2 c2).2.1 1 _ rfl; have r2 := (H.out.2.1 w2 c2).2.1 2 _ rfl; have hr := (H.out.2.1 w2 c2).2.2.1; have f0 := frozen_of_heap hr 0; have f1 := frozen_of_heap hr 1; have f2 := frozen_of_heap hr 2; have d0 := (cell_of_heap hr 0).trans rfl; have d1 := (cell_of_heap hr 1).trans rfl; have d2 := (cell_of_heap hr 2).trans rfl; have zr := heap_lt hr; have za := (H.out.2.1 w2 c2).2.2.2.1; have zb := (H.out.2.1 w2 c2).2.2.2.2; clear hr; clear c2))
      refine bodyPost_ret (mp_results2 (r := 4) (s := 5) rfl (b := rb) (m := ⟨0, 0, 0⟩) (st3_heap' (H.out.2.1 w3 HFw3.out).2.2.1 _ _ _) _ (.int .i64 1) rfl rfl) rfl ⟨?_, (((H.out.1.trans (HFw3.out.mono H.out.1.size)).setCell hrw _).setCell hrw _).setCell hrw _⟩
      have e : joinE a m = 1 := by unfold joinE; rw [if_pos (.inr H.out.2.2.2.1.symm)]
      have e2 : joinV a m = ⟨0, 0, 0⟩ := by unfold joinV; rw [if_neg (by rw [e]; decide)]
      rw [e, e2]
    · go_upto_region 3 with (first | (go_at_call 78; have bb := HFw2; clear bb; refine (H.out.2.2.2.2.2 _).mono ?_; rintro e w3 ⟨rfl, c3'⟩; have c3 := HFw2.out.trans (c3'.mono HFw2.out.size); have HFw3 := Lib.hid c3; have q0 := (H.out.2.1 w3 c3).1 0 _ rfl; have q1 := (H.out.2.1 w3 c3).1 1 _ rfl; have q2 := (H.out.2.1 w3 c3).1 2 _ rfl; have r0 := (H.out.2.1 w3 c3).2.1 0 _ rfl; have r1 := (H.out.2.1 w3 c3).2.1 1 _ rfl; have r2 := (H.out.2.1 w3 c3).2.1 2 _ rfl; have hr := (H.out.2.1 w3 c3).2.2.1; have f0 := frozen_of_heap hr 0; have f1 := frozen_of_heap hr 1; have f2 := frozen_of_heap hr 2; have d0 := (cell_of_heap hr 0).trans rfl; have d1 := (cell_of_heap hr 1).trans rfl; have d2 := (cell_of_heap hr 2).trans rfl; have zr := heap_lt hr; have za := (H.out.2.1 w3 c3).2.2.2.1; have zb := (H.out.2.1 w3 c3).2.2.2.2; clear hr; clear c3 c3') | (go_at_call 78; refine (H.out.2.2.2.2.1 _).mono ?_; rintro e w2 ⟨rfl, c2⟩; have HFw2 := Lib.hid c2; have q0 := (H.out.2.1 w2 c2).1 0 _ rfl; have q1 := (H.out.2.1 w2 c2).1 1 _ rfl; have q2 := (H.out.2.1 w2 c2).1 2 _ rfl; have r0 := (H.out.2.1 w2 c2).2.1 0 _ rfl; have r1 := (H.out.2.1 w2 c2).2.1 1 _ rfl; have r2 := (H.out.2.1 w2 c2).2.1 2 _ rfl; have hr := (H.out.2.1 w2 c2).2.2.1; have f0 := frozen_of_heap hr 0; have f1 := frozen_of_heap hr 1; have f2 := frozen_of_heap hr 2; have d0 := (cell_of_heap hr 0).trans rfl; have d1 := (cell_of_heap hr 1).trans rfl; have d2 := (cell_of_heap hr 2).trans rfl; have zr := heap_lt hr; have za := (H.out.2.1 w2 c2).2.2.2.1; have zb := (H.out.2.1 w2 c2).2.2.2.2; clear hr; clear c2))
      obtain ⟨y, hy⟩ : ∃ y, y = join1 a m := ⟨_, rfl⟩
      have kj := join_any a m w3.heap.size 0 1 (w3.alloc (.cells #[.int .i64 m.add, .int .i64 m.floor, .int .i64 m.most] 59)) (by simp) ((cell_of_heap (heap_alloc_new w3 _) 0).trans rfl) ((cell_of_heap (heap_alloc_new w3 _) 1).trans rfl) ((cell_of_heap (heap_alloc_new w3 _) 2).trans rfl) (mright_far H.out.2.2.1.symm) (mright_far H.out.2.2.2.1.symm)
      rw [← hy] at kj
      have HJ := Lib.hid (And.intro kj hy)
      clear kj hy
      go_upto_region 4 with (go_at_call 79; refine HJ.out.1.mono ?_; rintro e w4 ⟨rfl, c4'⟩; have HF4 := Lib.hid (HFw3.out.trans (((Below.refl _ _).alloc HFw3.out.size _).trans (c4'.mono (by have := HFw3.out.size; simp; omega)))); clear c4')
      obtain ⟨X, hX⟩ : ∃ X, X = w4.alloc (.cells #[.int .i64 y.add, .int .i64 y.floor, .int .i64 y.most] 59) := ⟨_, rfl⟩
      obtain ⟨yb, hyb⟩ : ∃ b, b = w4.heap.size := ⟨_, rfl⟩
      have gX : X.heap[yb]? = some (.cells #[.int .i64 y.add, .int .i64 y.floor, .int .i64 y.most] 59 (0, 0)) := by rw [hX, hyb]; exact heap_alloc_new _ _
      have bX : Below W.heap.size W X := by rw [hX]; exact HF4.out.alloc HF4.out.size _
      have hyr : rb ≠ yb := by have := HF4.out.size; omega
      rw [← hX, ← hyb]
      obtain ⟨ry, hry⟩ : ∃ r, r = mright y := ⟨_, rfl⟩
      have ky : ∀ wx, Calls Try.prog 78 #[.agg #[.int .i64 y.add, .int .i64 y.floor, .int .i64 y.most]] wx fun e w' => e = .returned (.bool ry) ∧ Below wx.heap.size wx w' := fun wx => by rw [hry]; exact mpRight_any y wx
      have x0 : X.cell? ⟨yb, 0, none⟩ = some (.int .i64 y.add) := (cell_of_heap gX 0).trans rfl
      have x1 : X.cell? ⟨yb, 1, none⟩ = some (.int .i64 y.floor) := (cell_of_heap gX 1).trans rfl
      have x2 : X.cell? ⟨yb, 2, none⟩ = some (.int .i64 y.most) := (cell_of_heap gX 2).trans rfl
      have zx := heap_lt gX
      have HX := Lib.hid (And.intro gX (And.intro hry (And.intro ky (And.intro bX hyr))))
      clear gX hry ky bX hX hyb q0 q1 q2 r0 r1 r2 f0 f1 f2 d0 d1 d2 zr za zb
      cases ry
      · go_wp2_with (go_at_call 78; refine (HX.out.2.2.1 _).mono ?_; rintro e w5 ⟨rfl, c5'⟩; have c5 := HX.out.2.2.2.1.trans (c5'.mono HX.out.2.2.2.1.size); have hr := (H.out.2.1 w5 c5).2.2.1; have f0 := frozen_of_heap hr 0; have f1 := frozen_of_heap hr 1; have f2 := frozen_of_heap hr 2; have d0 := (cell_of_heap hr 0).trans rfl; have d1 := (cell_of_heap hr 1).trans rfl; have d2 := (cell_of_heap hr 2).trans rfl; have zr := heap_lt hr; have hy5 := (c5'.block _ (heap_lt HX.out.1)).trans HX.out.1; have y0 := (cell_of_heap hy5 0).trans rfl; have y1 := (cell_of_heap hy5 1).trans rfl; have y2 := (cell_of_heap hy5 2).trans rfl; have zy := heap_lt hy5; have HF5 := Lib.hid c5; clear hr hy5 c5 c5')
        refine bodyPost_ret (mp_results2 (r := 4) (s := 5) rfl (b := rb) (m := ⟨0, 0, 0⟩) (st3_heap' (H.out.2.1 w5 HF5.out).2.2.1 _ _ _) _ (.int .i64 6) rfl rfl) rfl ⟨?_, (((H.out.1.trans (HF5.out.mono H.out.1.size)).setCell hrw _).setCell hrw _).setCell hrw _⟩
        have e : joinE a m = 6 := by unfold joinE; rw [if_neg (by rw [← H.out.2.2.1, ← H.out.2.2.2.1]; decide), if_pos (by rw [← HJ.out.2]; exact HX.out.2.1.symm)]
        have e2 : joinV a m = ⟨0, 0, 0⟩ := by unfold joinV; rw [if_neg (by rw [e]; decide)]
        rw [e, e2]
      · go_wp2_with (go_at_call 78; refine (HX.out.2.2.1 _).mono ?_; rintro e w5 ⟨rfl, c5'⟩; have c5 := HX.out.2.2.2.1.trans (c5'.mono HX.out.2.2.2.1.size); have hr := (H.out.2.1 w5 c5).2.2.1; have f0 := frozen_of_heap hr 0; have f1 := frozen_of_heap hr 1; have f2 := frozen_of_heap hr 2; have d0 := (cell_of_heap hr 0).trans rfl; have d1 := (cell_of_heap hr 1).trans rfl; have d2 := (cell_of_heap hr 2).trans rfl; have zr := heap_lt hr; have hy5 := (c5'.block _ (heap_lt HX.out.1)).trans HX.out.1; have y0 := (cell_of_heap hy5 0).trans rfl; have y1 := (cell_of_heap hy5 1).trans rfl; have y2 := (cell_of_heap hy5 2).trans rfl; have zy := heap_lt hy5; have HF5 := Lib.hid c5; clear hr hy5 c5 c5')
        refine bodyPost_ret (mp_results2 (r := 4) (s := 5) rfl (b := rb) (m := y) (st3_heap' (H.out.2.1 w5 HF5.out).2.2.1 _ _ _) _ (.int .i64 0) rfl rfl) rfl ⟨?_, (((H.out.1.trans (HF5.out.mono H.out.1.size)).setCell hrw _).setCell hrw _).setCell hrw _⟩
        have e : joinE a m = 0 := by unfold joinE; rw [if_neg (by rw [← H.out.2.2.1, ← H.out.2.2.2.1]; decide), if_neg (by rw [← HJ.out.2, ← HX.out.2.1]; decide)]
        have e2 : joinV a m = y := by unfold joinV; rw [if_pos e, HJ.out.2]
        rw [e, e2]
end Go.Proofs.Ythmldeningpjbaa
