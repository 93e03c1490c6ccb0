/- polynyaref09.copied (printed by wip/tools/ptcopied.py) -/
import Derived.Test.YthmldeningpjbaaPFp15
import Derived.Test.YthmldeningpjbaaPFp8
import Derived.Test.YthmldeningpjbaaPFp13
import Derived.Test.YthmldeningpjbaaPFp7
import Derived.Deep.DeepCutAuto
set_option linter.unusedVariables false
set_option linter.unusedSimpArgs false
namespace Go.Proofs.Ythmldeningpjbaa
open Go Go.RowKit Sp Pt
set_option linter.unusedVariables false
set_option linter.unusedSimpArgs false

/-- a state in blocks of its own -/
def NewStO (w : World) (s : Stt) (e : Ending) (w' : World) : Prop := ∃ A c q1 B d q2, e = .returned (.agg (sttV A c B d s)) ∧ OwnS w' 3 1 A s.brash.length c (ints s.brash) q1 ∧ OwnS w' 4 1 B s.busy.length d (bools s.busy) q2 ∧ (∀ x ∈ q1, w.heap.size ≤ x) ∧ (∀ x ∈ q2, w.heap.size ≤ x) ∧ (∀ x ∈ q1, x ∉ q2) ∧ Below w.heap.size w w'
structure CoS where
  A1 : Option Addr
  c1 : Nat
  q1 : List Nat
  b1 : Nat
  A2 : Option Addr
  c2 : Nat
  q2 : List Nat
  b2 : Nat
theorem own_empty (w : World) (e : TypeId) : OwnS (w.alloc (.cells #[] e)) e 1 (some ⟨w.heap.size, 0, none⟩) 0 0 [] [w.heap.size] := ⟨by simp, .inr ⟨_, _, rfl, rfl, heap_alloc_new w _, by omega, by omega, rfl, by simp⟩⟩

set_option linter.unusedVariables false
def CoqV (sb n m cr cu : Nat) (Ar Au : Option Addr) (s : CoS) : Nat → Value → Prop
  | 0, v => v = .slice (some ⟨s.b1, 0, none⟩) 0 0
  | 1, v => v = .pointer (some ⟨sb, 0, none⟩)
  | 2, v => v = .slice Ar n cr
  | 3, v => v = .slice s.A1 n s.c1
  | 4, v => v = .slice (some ⟨s.b2, 0, none⟩) 0 0
  | 5, v => v = .pointer (some ⟨sb, 1, none⟩)
  | 6, v => v = .slice Au m cu
  | 7, v => v = .slice s.A2 m s.c2
  | 8, v => v = .agg #[.slice s.A1 n s.c1, .slice s.A2 m s.c2]
  | _, _ => True

set_option maxRecDepth 100000 in
set_option maxHeartbeats 4000000 in
theorem copied_any (D : Nat) (Ar : Option Addr) (cr : Nat) (Au : Option Addr) (cu : Nat) (s : Stt) (w : World) (SB : SttB D w Ar cr Au cu s) (hD : D ≤ w.heap.size) (hl : s.brash.length ≤ 1000 ∧ s.busy.length ≤ 1000) :
    Calls Try.prog 127 #[.agg (sttV Ar cr Au cu s)] w (NewStO w s) := by
  obtain ⟨hI0, hI1, hI2, hI3, hI4⟩ := info_parts info_intP
  obtain ⟨hB0, hB1, hB2, hB3, hB4⟩ := info_parts info_boolP
  obtain ⟨sb, hsb⟩ : ∃ b, b = w.heap.size := ⟨_, rfl⟩
  obtain ⟨rb, hrb⟩ : ∃ b, b = w.heap.size + 1 := ⟨_, rfl⟩
  obtain ⟨W, hW⟩ : ∃ W, W = (w.alloc (.cells (sttV Ar cr Au cu s) 81)).alloc (.cells #[.slice none 0 0, .slice none 0 0] 81) := ⟨_, rfl⟩
  have O0 : Own w.heap.size w [.blk sb (.cells (sttV Ar cr Au cu s) 81), .blk rb (.cells #[.slice none 0 0, .slice none 0 0] 81)] W := by
    have h := (((Own.start w).alloc (.cells (sttV Ar cr Au cu s) 81)).alloc (.cells #[.slice none 0 0, .slice none 0 0] 81))
    rw [hW, hsb, hrb]
    simpa using h
  obtain ⟨n, hn⟩ : ∃ n, n = s.brash.length := ⟨_, rfl⟩
  obtain ⟨m, hm⟩ : ∃ n, n = s.busy.length := ⟨_, rfl⟩
  obtain ⟨xs, hxs⟩ : ∃ n, n = ints s.brash := ⟨_, rfl⟩
  obtain ⟨ys, hys⟩ : ∃ n, n = bools s.busy := ⟨_, rfl⟩
  have r1 : ∀ wx, Below w.heap.size w wx → Rd wx 1 Ar n xs := fun wx hb => by rw [hn, hxs]; exact (SB.br.below (hb.mono hD)).rd (Nat.le_trans hD hb.size)
  have r2 : ∀ wx, Below w.heap.size w wx → Rd wx 1 Au m ys := fun wx hb => by rw [hm, hys]; exact (SB.bu.below (hb.mono hD)).rd (Nat.le_trans hD hb.size)
  have r3 : ∀ u ∈ xs, u.oneCell' = true := by rw [hxs]; intro u hu; simp [ints] at hu; obtain ⟨y, _, rfl⟩ := hu; rfl
  have r4 : ∀ u ∈ ys, u.oneCell' = true := by rw [hys]; intro u hu; simp [bools] at hu; rcases hu with ⟨_, rfl⟩ | ⟨_, rfl⟩ <;> rfl
  have HS := Lib.hid (And.intro r1 (And.intro r2 (And.intro r3 r4)))
  have HN := Lib.hid (And.intro hn (And.intro hm (And.intro hxs hys)))
  simp only [sttV] at O0 hW ⊢
  rw [← hn, ← hm] at O0 hW ⊢
  have hl' : n ≤ 1000 ∧ m ≤ 1000 := by omega
  have HO := Lib.hid O0
  have zs := heap_lt (O0.heap 0 rfl)
  clear r1 r2 r3 r4 hn hm hxs hys O0 SB hl
  go_enter Try.func127, Try.ntmps127
  go_upto_region 1 with fail
  rw [← hW, ← hrb, ← hsb]
  clear hW hrb hsb
  refine wp_region_steps (σ := CoS) (by kernel_rfl) (by kernel_rfl) (fun sg jx vx _ => CoqV sb n m cr cu Ar Au sg jx vx) (fun sg ly wx => Own w.heap.size w [It.blk sb (.cells #[.slice Ar n cr, .slice Au m cu] 81), It.blk rb (.cells (if ly 9 = true then #[.slice sg.A1 n sg.c1, .slice sg.A2 m sg.c2] else #[.slice none 0 0, .slice none 0 0]) 81), if ly 0 = true then (if ly 3 = true then It.own 3 1 sg.A1 n sg.c1 xs sg.q1 else It.own 3 1 (some ⟨sg.b1, 0, none⟩) 0 0 [] [sg.b1]) else noIt, if ly 4 = true then (if ly 7 = true then It.own 4 1 sg.A2 m sg.c2 ys sg.q2 else It.own 4 1 (some ⟨sg.b2, 0, none⟩) 0 0 [] [sg.b2]) else noIt] wx) ⟨none, 0, [], 0, none, 0, [], 0⟩ ?_ ?_ ?_
  · exact HO.out.blank.blank.drew
  · simp only [AllFrom, Nat.zero_add, Nat.reduceAdd]
    refine ⟨?_, ?_, ?_, ?_, ?_, ?_, ?_, ?_, ?_, ?_, trivial⟩
    · refine step_run fun sg ly act wx hl hd hW hF => ?_
      have n3 := hF.notYet 0 3 hl (by kernel_rfl)
      have hO := hW
      try dsimp only at hO
      simp only [hl, Bool.false_eq_true, if_false, if_true] at hO
      refine ⟨_, wx.alloc (.cells #[] 3), { sg with b1 := wx.heap.size }, by go_simp, ?_, rfl, ?_⟩
      · have hN := hO.upd 2 rfl ((Keep.refl _ _).alloc (.cells #[] 3)) (i' := .own 3 1 (some ⟨wx.heap.size, 0, none⟩) 0 0 [] [wx.heap.size]) (own_empty wx _) (fun x hx => .inr (by rw [List.mem_singleton.1 hx]; exact Nat.le_refl _))
        simpa [upd, n3] using hN
      · intro i u hi h
        have i0 : i ≠ 0 := by rintro rfl; rw [hl] at hi; cases hi
        have i3 : i ≠ 3 := by rintro rfl; rw [n3] at hi; cases hi
        unfold CoqV at h ⊢
        split at h <;> first | exact h | exact absurd rfl i0 | exact absurd rfl i3
    · refine step_pure fun sg ly act wx hl hd hW hF => ?_
      have et1 := hF.old 1 (by kernel_rfl)
      simp [Act.eval] at et1
      exact ⟨hW, .pointer (some ⟨sb, 0, none⟩), by go_simp, rfl⟩
    · refine step_pure fun sg ly act wx hl hd hW hF => ?_
      simp [Region.binds] at hd
      have et4 := hF.new 1 4 (by simp [hd]) rfl
      simp [CoqV, Act.eval] at et4
      have hO := hW
      try dsimp only at hO
      have hh := hO.heap 0 rfl
      have clq0 := (cell_of_heap hh 0).trans rfl
      have clq1 := (cell_of_heap hh 1).trans rfl
      have zz := heap_lt hh
      exact ⟨hW, .slice Ar n cr, by go_simp, rfl⟩
    · intro sg ly act wx hl hd hW hF
      simp [Region.binds] at hd
      have et3 := hF.new 0 3 (by simp [hd]) rfl
      simp [CoqV, Act.eval] at et3
      have et5 := hF.new 2 5 (by simp [hd]) rfl
      simp [CoqV, Act.eval] at et5
      have n8 := hF.notYet 3 8 hl (by kernel_rfl)
      have n9 := hF.notYet 3 9 hl (by kernel_rfl)
      have y0 : ly 0 = true := by simp [hd]
      have hO := hW
      try dsimp only at hO
      simp only [hl, n8, n9, y0, Bool.false_eq_true, if_false, if_true] at hO
      refine wp_append_M (.tmp 3) (.tmp 5) 33 rfl hI0 _ 8 Try.underlying33 hI1 hI2 hI3 hI4 rfl (by simpa [Act.eval] using et3) (by simpa [Act.eval] using et5) (hO.owns 2 rfl) (HS.out.1 wx hO.bel) (HS.out.2.2.1) (by omega) (by omega) ?_
      intro A' c' w' q' h1 h2 h3
      rw [Nat.zero_add, List.nil_append] at h1
      have hN := hO.upd 2 rfl h3 (i' := .own 3 1 A' n c' xs q') (show OwnS _ _ _ _ _ _ _ _ from h1) (fun x hx => (h2 x hx).imp id (fun e => by omega))
      refine ⟨{ sg with A1 := A', c1 := c', q1 := q' }, .slice A' n c', by rw [Nat.zero_add], ?_, fun _ => rfl, ?_⟩
      · simpa [upd, n8, n9, y0] using hN
      · intro i u hi h
        have i3 : i ≠ 3 := by rintro rfl; rw [hl] at hi; cases hi
        have i8 : i ≠ 8 := by rintro rfl; rw [n8] at hi; cases hi
        have i9 : i ≠ 9 := by rintro rfl; rw [n9] at hi; cases hi
        unfold CoqV at h ⊢
        split at h <;> first | exact h | exact absurd rfl i3 | exact absurd rfl i8 | exact absurd rfl i9
    · refine step_run fun sg ly act wx hl hd hW hF => ?_
      have n7 := hF.notYet 4 7 hl (by kernel_rfl)
      have hO := hW
      try dsimp only at hO
      simp only [hl, Bool.false_eq_true, if_false, if_true] at hO
      refine ⟨_, wx.alloc (.cells #[] 4), { sg with b2 := wx.heap.size }, by go_simp, ?_, rfl, ?_⟩
      · have hN := hO.upd 3 rfl ((Keep.refl _ _).alloc (.cells #[] 4)) (i' := .own 4 1 (some ⟨wx.heap.size, 0, none⟩) 0 0 [] [wx.heap.size]) (own_empty wx _) (fun x hx => .inr (by rw [List.mem_singleton.1 hx]; exact Nat.le_refl _))
        simpa [upd, n7] using hN
      · intro i u hi h
        have i4 : i ≠ 4 := by rintro rfl; rw [hl] at hi; cases hi
        have i7 : i ≠ 7 := by rintro rfl; rw [n7] at hi; cases hi
        unfold CoqV at h ⊢
        split at h <;> first | exact h | exact absurd rfl i4 | exact absurd rfl i7
    · refine step_pure fun sg ly act wx hl hd hW hF => ?_
      have et1 := hF.old 1 (by kernel_rfl)
      simp [Act.eval] at et1
      exact ⟨hW, .pointer (some ⟨sb, 1, none⟩), by go_simp, rfl⟩
    · refine step_pure fun sg ly act wx hl hd hW hF => ?_
      simp [Region.binds] at hd
      have et8 := hF.new 5 8 (by simp [hd]) rfl
      simp [CoqV, Act.eval] at et8
      have hO := hW
      try dsimp only at hO
      have hh := hO.heap 0 rfl
      have clq0 := (cell_of_heap hh 0).trans rfl
      have clq1 := (cell_of_heap hh 1).trans rfl
      have zz := heap_lt hh
      exact ⟨hW, .slice Au m cu, by go_simp, rfl⟩
    · intro sg ly act wx hl hd hW hF
      simp [Region.binds] at hd
      have et7 := hF.new 4 7 (by simp [hd]) rfl
      simp [CoqV, Act.eval] at et7
      have et9 := hF.new 6 9 (by simp [hd]) rfl
      simp [CoqV, Act.eval] at et9
      have n8 := hF.notYet 7 8 hl (by kernel_rfl)
      have n9 := hF.notYet 7 9 hl (by kernel_rfl)
      have y4 : ly 4 = true := by simp [hd]
      have hO := hW
      try dsimp only at hO
      simp only [hl, n8, n9, y4, Bool.false_eq_true, if_false, if_true] at hO
      refine wp_append_M (.tmp 7) (.tmp 9) 40 rfl hB0 _ 1 Try.underlying40 hB1 hB2 hB3 hB4 rfl (by simpa [Act.eval] using et7) (by simpa [Act.eval] using et9) (hO.owns 3 rfl) (HS.out.2.1 wx hO.bel) (HS.out.2.2.2) (by omega) (by omega) ?_
      intro A' c' w' q' h1 h2 h3
      rw [Nat.zero_add, List.nil_append] at h1
      have hN := hO.upd 3 rfl h3 (i' := .own 4 1 A' m c' ys q') (show OwnS _ _ _ _ _ _ _ _ from h1) (fun x hx => (h2 x hx).imp id (fun e => by omega))
      refine ⟨{ sg with A2 := A', c2 := c', q2 := q' }, .slice A' m c', by rw [Nat.zero_add], ?_, fun _ => rfl, ?_⟩
      · simpa [upd, n8, n9, y4] using hN
      · intro i u hi h
        have i7 : i ≠ 7 := by rintro rfl; rw [hl] at hi; cases hi
        have i8 : i ≠ 8 := by rintro rfl; rw [n8] at hi; cases hi
        have i9 : i ≠ 9 := by rintro rfl; rw [n9] at hi; cases hi
        unfold CoqV at h ⊢
        split at h <;> first | exact h | exact absurd rfl i7 | exact absurd rfl i8 | exact absurd rfl i9
    · refine step_pure fun sg ly act wx hl hd hW hF => ?_
      simp [Region.binds] at hd
      have et6 := hF.new 3 6 (by simp [hd]) rfl
      simp [CoqV, Act.eval] at et6
      have et10 := hF.new 7 10 (by simp [hd]) rfl
      simp [CoqV, Act.eval] at et10
      exact ⟨hW, .agg #[.slice sg.A1 n sg.c1, .slice sg.A2 m sg.c2], by go_simp, rfl⟩
    · refine step_store rfl fun sg ly act wx hl hd hW hF => ?_
      simp [Region.binds] at hd
      have et2 := hF.old 2 (by kernel_rfl)
      simp [Act.eval] at et2
      have et11 := hF.new 8 11 (by simp [hd]) rfl
      simp [CoqV, Act.eval] at et11
      have hO := hW
      try dsimp only at hO
      simp only [hl, Bool.false_eq_true, if_false, if_true] at hO
      have hh := hO.heap 1 rfl
      have clq0 := (cell_of_heap hh 0).trans rfl
      have flq0 := frozen_of_heap hh 0
      have clq1 := (cell_of_heap hh 1).trans rfl
      have flq1 := frozen_of_heap hh 1
      have zz := heap_lt hh
      refine ⟨((wx.setCell ⟨rb, 0, none⟩ (.slice sg.A1 n sg.c1)).setCell ⟨rb, 1, none⟩ (.slice sg.A2 m sg.c2)), sg, .skip, by go_simp, .inl rfl, ?_, fun _ _ _ h => h⟩
      have hN := hO.set 1 rfl (((Keep.refl _ _).setCell (.inl (by simp)) (.slice sg.A1 n sg.c1)).setCell (.inl (by simp)) (.slice sg.A2 m sg.c2)) (heap_set (heap_set (hh) 0 (.slice sg.A1 n sg.c1)) 1 (.slice sg.A2 m sg.c2))
      simpa [upd, hl] using hN
  intro sg af w5 hWW hF
  obtain ⟨ff, hf, rfl⟩ := hF.lit
  obtain ⟨A1, c1, q1, b1, A2, c2, q2, b2⟩ := sg
  have O5 : Own w.heap.size w [It.blk sb (.cells #[.slice Ar n cr, .slice Au m cu] 81), It.blk rb (.cells (if (fun j => decide (j < List.length (_ : List Oper))) 9 = true then #[.slice (CoS.mk A1 c1 q1 b1 A2 c2 q2 b2).A1 n (CoS.mk A1 c1 q1 b1 A2 c2 q2 b2).c1, .slice (CoS.mk A1 c1 q1 b1 A2 c2 q2 b2).A2 m (CoS.mk A1 c1 q1 b1 A2 c2 q2 b2).c2] else #[.slice none 0 0, .slice none 0 0]) 81), if (fun j => decide (j < List.length (_ : List Oper))) 0 = true then (if (fun j => decide (j < List.length (_ : List Oper))) 3 = true then It.own 3 1 (CoS.mk A1 c1 q1 b1 A2 c2 q2 b2).A1 n (CoS.mk A1 c1 q1 b1 A2 c2 q2 b2).c1 xs (CoS.mk A1 c1 q1 b1 A2 c2 q2 b2).q1 else It.own 3 1 (some ⟨(CoS.mk A1 c1 q1 b1 A2 c2 q2 b2).b1, 0, none⟩) 0 0 [] [(CoS.mk A1 c1 q1 b1 A2 c2 q2 b2).b1]) else noIt, if (fun j => decide (j < List.length (_ : List Oper))) 4 = true then (if (fun j => decide (j < List.length (_ : List Oper))) 7 = true then It.own 4 1 (CoS.mk A1 c1 q1 b1 A2 c2 q2 b2).A2 m (CoS.mk A1 c1 q1 b1 A2 c2 q2 b2).c2 ys (CoS.mk A1 c1 q1 b1 A2 c2 q2 b2).q2 else It.own 4 1 (some ⟨(CoS.mk A1 c1 q1 b1 A2 c2 q2 b2).b2, 0, none⟩) 0 0 [] [(CoS.mk A1 c1 q1 b1 A2 c2 q2 b2).b2]) else noIt] w5 := hWW
  simp only [List.length_cons, List.length_nil, Nat.reduceAdd, Nat.reduceLT, decide_true, if_true] at O5
  have g0 := (cell_of_heap (O5.heap 1 rfl) 0).trans rfl
  have g1 := (cell_of_heap (O5.heap 1 rfl) 1).trans rfl
  have H5 := Lib.hid O5
  clear hf hF hWW O5
  simp only [List.filterMap, List.foldl, List.setIfInBounds_toArray, List.set_cons_succ, List.set_cons_zero]
  go_wp2_with fail
  obtain ⟨hn, hm, hxs, hys⟩ := HN.out
  refine bodyPost_ret (v := .agg #[.slice A1 n c1, .slice A2 m c2]) (by simp [results, Try.results127, go_sem, g0, g1]) rfl ?_
  refine ⟨A1, c1, q1, A2, c2, q2, by simp only [sttV]; rw [← hn, ← hm], ?_, ?_, fun x hx => H5.out.ge 2 rfl (x := x) hx, fun x hx => H5.out.ge 3 rfl (x := x) hx, fun x hx hx2 => H5.out.dis 2 3 _ _ rfl rfl (by decide) x hx hx2, H5.out.bel⟩
  · rw [← hn, ← hxs]; exact H5.out.owns 2 rfl
  · rw [← hm, ← hys]; exact H5.out.owns 3 rfl
end Go.Proofs.Ythmldeningpjbaa
