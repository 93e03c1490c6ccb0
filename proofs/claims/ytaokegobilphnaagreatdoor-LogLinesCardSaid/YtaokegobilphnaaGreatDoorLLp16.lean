/- ice: spans within their limits (printed by wip/tools/ice.py) -/
import Derived.Test.YtaokegobilphnaaGreatDoorLLp15
import Derived.Test.YtaokegobilphnaaGreatDoorLLp5
import Derived.Deep.DeepCutAuto
import Derived.Test.YtaokegobilphnaaGreatDoorLLp0
set_option linter.unusedVariables false
set_option linter.unusedSimpArgs false
namespace Go.Proofs.YtaokegobilphnaaGreatDoor
open Go Go.RowKit Sp
set_option linter.unusedVariables false

def RiV (s : Int × Int) (ib : Nat) (k m : Int) : Nat → Value → Prop
  | 0, u => u = .pointer (some ⟨ib, 0, none⟩)
  | 1, u => u = .int .i64 s.1
  | 2, u => u = .agg #[.int .i64 100, .int .i64 400, .int .i64 100, .int .i64 3]
  | 3, u => u = .int .i64 k
  | 4, u => u = .int .i64 m
  | 5, u => u = .bool false
  | 6, u => u = .bool false
  | 15, u => u = .bool false
  | 16, u => u = .bool false
  | _, _ => True
def spanOk (s : Int × Int) (m : Int) : Bool := within s.1 0 m && within s.2 s.1 m

set_option maxRecDepth 100000 in
set_option maxHeartbeats 2000000 in
theorem right0_any (s : Int × Int) (w : World) :
    Calls Tryz.prog 158 #[.agg #[.int .i64 s.1, .int .i64 s.2], .int .i64 0] w fun e w' => e = .returned (.bool (spanOk s 100)) ∧ Below w.heap.size w w' := by
  obtain ⟨W, hW⟩ : ∃ W, W = w.alloc (.cells #[.int .i64 s.1, .int .i64 s.2] 71) := ⟨_, rfl⟩
  obtain ⟨ib, hib⟩ : ∃ b, b = w.heap.size := ⟨_, rfl⟩
  have hh : W.heap[ib]? = some (.cells #[.int .i64 s.1, .int .i64 s.2] 71 (0, 0)) := by rw [hW, hib]; exact heap_alloc_new _ _
  have bW : Below w.heap.size w W := by rw [hW]; exact (Below.refl _ _).alloc (Nat.le_refl _) _
  have c0 := (cell_of_heap hh 0).trans rfl
  have c1 := (cell_of_heap hh 1).trans rfl
  have zb := heap_lt hh
  have KC : ∀ {b o : Nat} {u : Value}, W.cell? ⟨b, o, none⟩ = some u → ∀ w', Below W.heap.size W w' → w'.cell? ⟨b, o, none⟩ = some u := fun h w' hb => (hb.cell (World.block_lt_of_cell? W _ h)).trans h
  have c0' := KC c0
  have c1' := KC c1
  clear KC hh
  obtain ⟨r1, hr1⟩ : ∃ r, r = within s.1 0 100 := ⟨_, rfl⟩
  obtain ⟨r2, hr2⟩ : ∃ r, r = within s.2 s.1 100 := ⟨_, rfl⟩
  have hs : spanOk s 100 = (r1 && r2) := by rw [hr1, hr2]; rfl
  rw [hs]
  have k1 : ∀ wx, Calls Tryz.prog 154 #[.int .i64 s.1, .int .i64 0, .int .i64 100] wx fun e w' => e = .returned (.bool r1) ∧ wx = w' := fun wx => by rw [hr1]; exact icein_any _ _ _ wx
  have k2 : ∀ wx, Calls Tryz.prog 154 #[.int .i64 s.2, .int .i64 s.1, .int .i64 100] wx fun e w' => e = .returned (.bool r2) ∧ wx = w' := fun wx => by rw [hr2]; exact icein_any _ _ _ wx
  have H := Lib.hid (And.intro k1 (And.intro k2 bW))
  clear hr1 hr2 hs k1 k2 bW
  have hx := fun w => (most_index w).1.1
  cases r1
  · go_enter Tryz.func158, Tryz.ntmps158
    go_upto_region 1 with fail
    rw [← hW, ← hib]
    clear hW hib
    refine wp_region_stepsG (σ := Unit) (by kernel_rfl) (by kernel_rfl) (fun _ jx vx _ => RiV s ib 0 100 jx vx) (fun _ ly wx => Below W.heap.size W wx) () ?_ ?_ ?_
    · exact (Below.refl _ _).drew
    · simp only [AllFrom, Nat.zero_add, Nat.reduceAdd]
      refine ⟨?_, ?_, ?_, ?_, ?_, ?_, ?_, ?_, ?_, ?_, ?_, ?_, ?_, ?_, ?_, ?_, ?_, trivial⟩
      · refine stepG_plain rfl (step_pure fun sg ly a wr hl hd hW hF => ?_)
        have et2 := hF.old 2 (by kernel_rfl)
        simp [Act.eval] at et2
        exact ⟨hW, _, by go_simp, rfl⟩
      · refine stepG_plain rfl (step_pure fun sg ly a wr hl hd hW hF => ?_)
        simp [Region.binds] at hd
        have et5 := hF.new 0 5 (by simp [hd]) rfl
        simp [RiV, Act.eval] at et5
        have k0 := c0' _ hW
        exact ⟨hW, _, by go_simp, rfl⟩
      · refine stepG_plain rfl (step_call fun sg ly a wr hl hd hW hF => ?_)
        refine ⟨171, #[], by go_simp, ?_⟩
        refine (most_any wr).mono ?_
        rintro e w2 ⟨rfl, b2⟩
        exact ⟨_, (), rfl, hW.trans (b2.mono hW.size), rfl, fun _ _ _ h => h⟩
      · refine stepG_plain rfl (step_pure fun sg ly a wr hl hd hW hF => ?_)
        have et1 := hF.old 1 (by kernel_rfl)
        simp [Act.eval] at et1
        exact ⟨hW, _, by go_simp, rfl⟩
      · refine stepG_plain rfl (step_pure fun sg ly a wr hl hd hW hF => ?_)
        simp [Region.binds] at hd
        have et7 := hF.new 2 7 (by simp [hd]) rfl
        simp [RiV, Act.eval] at et7
        have et8 := hF.new 3 8 (by simp [hd]) rfl
        simp [RiV, Act.eval] at et8
        exact ⟨hW, _, by go_simp, rfl⟩
      · refine stepG_plain rfl (step_call fun sg ly a wr hl hd hW hF => ?_)
        simp [Region.binds] at hd
        have et6 := hF.new 1 6 (by simp [hd]) rfl
        simp [RiV, Act.eval] at et6
        have et9 := hF.new 4 9 (by simp [hd]) rfl
        simp [RiV, Act.eval] at et9
        refine ⟨154, #[.int .i64 s.1, .int .i64 0, .int .i64 100], by go_simp, ?_⟩
        refine (H.out.1 wr).mono ?_
        rintro e w2 ⟨rfl, rfl⟩
        exact ⟨_, (), rfl, hW, rfl, fun _ _ _ h => h⟩
      · refine stepG_plain rfl (step_pure fun sg ly a wr hl hd hW hF => ?_)
        simp [Region.binds] at hd
        have et10 := hF.new 5 10 (by simp [hd]) rfl
        simp [RiV, Act.eval] at et10
        exact ⟨hW, _, by go_simp, rfl⟩
      · refine stepG_guard (fun sg ly a wr hl hd hW hF hw => ?_) (fun sg ly a wr hl hd hW hF hw => ⟨hW, trivial⟩)
        simp [Region.binds] at hd
        obtain ⟨u, hu, hp⟩ := hF.vals 6 _ 11 (by simp [hd]) rfl rfl
        simp [RiV] at hp
        subst hp
        simp [Region.wanted, yielded, hu] at hw
      · refine stepG_guard (fun sg ly a wr hl hd hW hF hw => ?_) (fun sg ly a wr hl hd hW hF hw => ⟨hW, trivial⟩)
        simp [Region.binds] at hd
        obtain ⟨u, hu, hp⟩ := hF.vals 6 _ 11 (by simp [hd]) rfl rfl
        simp [RiV] at hp
        subst hp
        simp [Region.wanted, yielded, hu] at hw
      · refine stepG_guard (fun sg ly a wr hl hd hW hF hw => ?_) (fun sg ly a wr hl hd hW hF hw => ⟨hW, trivial⟩)
        simp [Region.binds] at hd
        obtain ⟨u, hu, hp⟩ := hF.vals 6 _ 11 (by simp [hd]) rfl rfl
        simp [RiV] at hp
        subst hp
        simp [Region.wanted, yielded, hu] at hw
      · refine stepG_guard (fun sg ly a wr hl hd hW hF hw => ?_) (fun sg ly a wr hl hd hW hF hw => ⟨hW, trivial⟩)
        simp [Region.binds] at hd
        obtain ⟨u, hu, hp⟩ := hF.vals 6 _ 11 (by simp [hd]) rfl rfl
        simp [RiV] at hp
        subst hp
        simp [Region.wanted, yielded, hu] at hw
      · refine stepG_guard (fun sg ly a wr hl hd hW hF hw => ?_) (fun sg ly a wr hl hd hW hF hw => ⟨hW, trivial⟩)
        simp [Region.binds] at hd
        obtain ⟨u, hu, hp⟩ := hF.vals 6 _ 11 (by simp [hd]) rfl rfl
        simp [RiV] at hp
        subst hp
        simp [Region.wanted, yielded, hu] at hw
      · refine stepG_guard (fun sg ly a wr hl hd hW hF hw => ?_) (fun sg ly a wr hl hd hW hF hw => ⟨hW, trivial⟩)
        simp [Region.binds] at hd
        obtain ⟨u, hu, hp⟩ := hF.vals 6 _ 11 (by simp [hd]) rfl rfl
        simp [RiV] at hp
        subst hp
        simp [Region.wanted, yielded, hu] at hw
      · refine stepG_guard (fun sg ly a wr hl hd hW hF hw => ?_) (fun sg ly a wr hl hd hW hF hw => ⟨hW, trivial⟩)
        simp [Region.binds] at hd
        obtain ⟨u, hu, hp⟩ := hF.vals 6 _ 11 (by simp [hd]) rfl rfl
        simp [RiV] at hp
        subst hp
        simp [Region.wanted, yielded, hu] at hw
      · refine stepG_guard (fun sg ly a wr hl hd hW hF hw => ?_) (fun sg ly a wr hl hd hW hF hw => ⟨hW, trivial⟩)
        simp [Region.binds] at hd
        obtain ⟨u, hu, hp⟩ := hF.vals 6 _ 11 (by simp [hd]) rfl rfl
        simp [RiV] at hp
        subst hp
        simp [Region.wanted, yielded, hu] at hw
      · refine stepG_plain rfl (step_pure fun sg ly a wr hl hd hW hF => ?_)
        simp [Region.binds] at hd
        have et11 := hF.new 6 11 (by simp [hd]) rfl
        simp [RiV, Act.eval] at et11
        exact ⟨hW, _, by go_simp, rfl⟩
      · refine stepG_plain rfl (step_pure fun sg ly a wr hl hd hW hF => ?_)
        simp [Region.binds] at hd
        have et20 := hF.new 15 20 (by simp [hd]) rfl
        simp [RiV, Act.eval] at et20
        exact ⟨hW, _, by go_simp, rfl⟩
    intro sg a w5 hW hF
    have e4 := hF.new 16 4 (by decide) rfl
    obtain ⟨f, hf, rfl⟩ := hF.lit
    rw [← hf] at e4
    simp only [RiV] at e4
    have HB := Lib.hid hW
    clear hf hF hW
    simp only [List.filterMap, List.foldl, List.setIfInBounds_toArray, List.set_cons_succ, List.set_cons_zero, e4]
    clear e4
    go_wp2_with fail
    go_ret
    exact ⟨rfl, H.out.2.2.trans (HB.out.mono H.out.2.2.size)⟩
  · go_enter Tryz.func158, Tryz.ntmps158
    go_upto_region 1 with fail
    rw [← hW, ← hib]
    clear hW hib
    go_region_held3 (fun w' => Below W.heap.size W w') (first | exact (Below.refl _ _).drew | assumption)
      (first
        | (go_at_call 171
           have bb := B2
           clear bb
           refine (most_any _).mono ?_
           rintro e w4 ⟨rfl, b4⟩
           have B4 : Below W.heap.size W w4 := B2.trans (b4.mono B2.size)
           clear b4)
        | (go_at_call 171
           refine (most_any _).mono ?_
           rintro e w2 ⟨rfl, b2⟩
           have B2 : Below W.heap.size W w2 := (Below.refl _ _).drew.trans b2
           clear b2)
        | (go_at_call 154
           have bb := B4
           clear bb
           refine (H.out.2.1 _).mono ?_
           rintro e w5 ⟨rfl, rfl⟩)
        | (go_at_call 154
           refine (H.out.1 _).mono ?_
           rintro e w3 ⟨rfl, rfl⟩)
        | fail)
    have HB := Lib.hid B4
    clear B2 B4
    go_wp2_with fail
    go_ret
    exact ⟨by simp, H.out.2.2.trans (HB.out.mono H.out.2.2.size)⟩

set_option maxRecDepth 100000 in
set_option maxHeartbeats 2000000 in
theorem right1_any (s : Int × Int) (w : World) :
    Calls Tryz.prog 158 #[.agg #[.int .i64 s.1, .int .i64 s.2], .int .i64 1] w fun e w' => e = .returned (.bool (spanOk s 400)) ∧ Below w.heap.size w w' := by
  obtain ⟨W, hW⟩ : ∃ W, W = w.alloc (.cells #[.int .i64 s.1, .int .i64 s.2] 71) := ⟨_, rfl⟩
  obtain ⟨ib, hib⟩ : ∃ b, b = w.heap.size := ⟨_, rfl⟩
  have hh : W.heap[ib]? = some (.cells #[.int .i64 s.1, .int .i64 s.2] 71 (0, 0)) := by rw [hW, hib]; exact heap_alloc_new _ _
  have bW : Below w.heap.size w W := by rw [hW]; exact (Below.refl _ _).alloc (Nat.le_refl _) _
  have c0 := (cell_of_heap hh 0).trans rfl
  have c1 := (cell_of_heap hh 1).trans rfl
  have zb := heap_lt hh
  have KC : ∀ {b o : Nat} {u : Value}, W.cell? ⟨b, o, none⟩ = some u → ∀ w', Below W.heap.size W w' → w'.cell? ⟨b, o, none⟩ = some u := fun h w' hb => (hb.cell (World.block_lt_of_cell? W _ h)).trans h
  have c0' := KC c0
  have c1' := KC c1
  clear KC hh
  obtain ⟨r1, hr1⟩ : ∃ r, r = within s.1 0 400 := ⟨_, rfl⟩
  obtain ⟨r2, hr2⟩ : ∃ r, r = within s.2 s.1 400 := ⟨_, rfl⟩
  have hs : spanOk s 400 = (r1 && r2) := by rw [hr1, hr2]; rfl
  rw [hs]
  have k1 : ∀ wx, Calls Tryz.prog 154 #[.int .i64 s.1, .int .i64 0, .int .i64 400] wx fun e w' => e = .returned (.bool r1) ∧ wx = w' := fun wx => by rw [hr1]; exact icein_any _ _ _ wx
  have k2 : ∀ wx, Calls Tryz.prog 154 #[.int .i64 s.2, .int .i64 s.1, .int .i64 400] wx fun e w' => e = .returned (.bool r2) ∧ wx = w' := fun wx => by rw [hr2]; exact icein_any _ _ _ wx
  have H := Lib.hid (And.intro k1 (And.intro k2 bW))
  clear hr1 hr2 hs k1 k2 bW
  have hx := fun w => (most_index w).1.2
  cases r1
  · go_enter Tryz.func158, Tryz.ntmps158
    go_upto_region 1 with fail
    rw [← hW, ← hib]
    clear hW hib
    refine wp_region_stepsG (σ := Unit) (by kernel_rfl) (by kernel_rfl) (fun _ jx vx _ => RiV s ib 1 400 jx vx) (fun _ ly wx => Below W.heap.size W wx) () ?_ ?_ ?_
    · exact (Below.refl _ _).drew
    · simp only [AllFrom, Nat.zero_add, Nat.reduceAdd]
      refine ⟨?_, ?_, ?_, ?_, ?_, ?_, ?_, ?_, ?_, ?_, ?_, ?_, ?_, ?_, ?_, ?_, ?_, trivial⟩
      · refine stepG_plain rfl (step_pure fun sg ly a wr hl hd hW hF => ?_)
        have et2 := hF.old 2 (by kernel_rfl)
        simp [Act.eval] at et2
        exact ⟨hW, _, by go_simp, rfl⟩
      · refine stepG_plain rfl (step_pure fun sg ly a wr hl hd hW hF => ?_)
        simp [Region.binds] at hd
        have et5 := hF.new 0 5 (by simp [hd]) rfl
        simp [RiV, Act.eval] at et5
        have k0 := c0' _ hW
        exact ⟨hW, _, by go_simp, rfl⟩
      · refine stepG_plain rfl (step_call fun sg ly a wr hl hd hW hF => ?_)
        refine ⟨171, #[], by go_simp, ?_⟩
        refine (most_any wr).mono ?_
        rintro e w2 ⟨rfl, b2⟩
        exact ⟨_, (), rfl, hW.trans (b2.mono hW.size), rfl, fun _ _ _ h => h⟩
      · refine stepG_plain rfl (step_pure fun sg ly a wr hl hd hW hF => ?_)
        have et1 := hF.old 1 (by kernel_rfl)
        simp [Act.eval] at et1
        exact ⟨hW, _, by go_simp, rfl⟩
      · refine stepG_plain rfl (step_pure fun sg ly a wr hl hd hW hF => ?_)
        simp [Region.binds] at hd
        have et7 := hF.new 2 7 (by simp [hd]) rfl
        simp [RiV, Act.eval] at et7
        have et8 := hF.new 3 8 (by simp [hd]) rfl
        simp [RiV, Act.eval] at et8
        exact ⟨hW, _, by go_simp, rfl⟩
      · refine stepG_plain rfl (step_call fun sg ly a wr hl hd hW hF => ?_)
        simp [Region.binds] at hd
        have et6 := hF.new 1 6 (by simp [hd]) rfl
        simp [RiV, Act.eval] at et6
        have et9 := hF.new 4 9 (by simp [hd]) rfl
        simp [RiV, Act.eval] at et9
        refine ⟨154, #[.int .i64 s.1, .int .i64 0, .int .i64 400], by go_simp, ?_⟩
        refine (H.out.1 wr).mono ?_
        rintro e w2 ⟨rfl, rfl⟩
        exact ⟨_, (), rfl, hW, rfl, fun _ _ _ h => h⟩
      · refine stepG_plain rfl (step_pure fun sg ly a wr hl hd hW hF => ?_)
        simp [Region.binds] at hd
        have et10 := hF.new 5 10 (by simp [hd]) rfl
        simp [RiV, Act.eval] at et10
        exact ⟨hW, _, by go_simp, rfl⟩
      · refine stepG_guard (fun sg ly a wr hl hd hW hF hw => ?_) (fun sg ly a wr hl hd hW hF hw => ⟨hW, trivial⟩)
        simp [Region.binds] at hd
        obtain ⟨u, hu, hp⟩ := hF.vals 6 _ 11 (by simp [hd]) rfl rfl
        simp [RiV] at hp
        subst hp
        simp [Region.wanted, yielded, hu] at hw
      · refine stepG_guard (fun sg ly a wr hl hd hW hF hw => ?_) (fun sg ly a wr hl hd hW hF hw => ⟨hW, trivial⟩)
        simp [Region.binds] at hd
        obtain ⟨u, hu, hp⟩ := hF.vals 6 _ 11 (by simp [hd]) rfl rfl
        simp [RiV] at hp
        subst hp
        simp [Region.wanted, yielded, hu] at hw
      · refine stepG_guard (fun sg ly a wr hl hd hW hF hw => ?_) (fun sg ly a wr hl hd hW hF hw => ⟨hW, trivial⟩)
        simp [Region.binds] at hd
        obtain ⟨u, hu, hp⟩ := hF.vals 6 _ 11 (by simp [hd]) rfl rfl
        simp [RiV] at hp
        subst hp
        simp [Region.wanted, yielded, hu] at hw
      · refine stepG_guard (fun sg ly a wr hl hd hW hF hw => ?_) (fun sg ly a wr hl hd hW hF hw => ⟨hW, trivial⟩)
        simp [Region.binds] at hd
        obtain ⟨u, hu, hp⟩ := hF.vals 6 _ 11 (by simp [hd]) rfl rfl
        simp [RiV] at hp
        subst hp
        simp [Region.wanted, yielded, hu] at hw
      · refine stepG_guard (fun sg ly a wr hl hd hW hF hw => ?_) (fun sg ly a wr hl hd hW hF hw => ⟨hW, trivial⟩)
        simp [Region.binds] at hd
        obtain ⟨u, hu, hp⟩ := hF.vals 6 _ 11 (by simp [hd]) rfl rfl
        simp [RiV] at hp
        subst hp
        simp [Region.wanted, yielded, hu] at hw
      · refine stepG_guard (fun sg ly a wr hl hd hW hF hw => ?_) (fun sg ly a wr hl hd hW hF hw => ⟨hW, trivial⟩)
        simp [Region.binds] at hd
        obtain ⟨u, hu, hp⟩ := hF.vals 6 _ 11 (by simp [hd]) rfl rfl
        simp [RiV] at hp
        subst hp
        simp [Region.wanted, yielded, hu] at hw
      · refine stepG_guard (fun sg ly a wr hl hd hW hF hw => ?_) (fun sg ly a wr hl hd hW hF hw => ⟨hW, trivial⟩)
        simp [Region.binds] at hd
        obtain ⟨u, hu, hp⟩ := hF.vals 6 _ 11 (by simp [hd]) rfl rfl
        simp [RiV] at hp
        subst hp
        simp [Region.wanted, yielded, hu] at hw
      · refine stepG_guard (fun sg ly a wr hl hd hW hF hw => ?_) (fun sg ly a wr hl hd hW hF hw => ⟨hW, trivial⟩)
        simp [Region.binds] at hd
        obtain ⟨u, hu, hp⟩ := hF.vals 6 _ 11 (by simp [hd]) rfl rfl
        simp [RiV] at hp
        subst hp
        simp [Region.wanted, yielded, hu] at hw
      · refine stepG_plain rfl (step_pure fun sg ly a wr hl hd hW hF => ?_)
        simp [Region.binds] at hd
        have et11 := hF.new 6 11 (by simp [hd]) rfl
        simp [RiV, Act.eval] at et11
        exact ⟨hW, _, by go_simp, rfl⟩
      · refine stepG_plain rfl (step_pure fun sg ly a wr hl hd hW hF => ?_)
        simp [Region.binds] at hd
        have et20 := hF.new 15 20 (by simp [hd]) rfl
        simp [RiV, Act.eval] at et20
        exact ⟨hW, _, by go_simp, rfl⟩
    intro sg a w5 hW hF
    have e4 := hF.new 16 4 (by decide) rfl
    obtain ⟨f, hf, rfl⟩ := hF.lit
    rw [← hf] at e4
    simp only [RiV] at e4
    have HB := Lib.hid hW
    clear hf hF hW
    simp only [List.filterMap, List.foldl, List.setIfInBounds_toArray, List.set_cons_succ, List.set_cons_zero, e4]
    clear e4
    go_wp2_with fail
    go_ret
    exact ⟨rfl, H.out.2.2.trans (HB.out.mono H.out.2.2.size)⟩
  · go_enter Tryz.func158, Tryz.ntmps158
    go_upto_region 1 with fail
    rw [← hW, ← hib]
    clear hW hib
    go_region_held3 (fun w' => Below W.heap.size W w') (first | exact (Below.refl _ _).drew | assumption)
      (first
        | (go_at_call 171
           have bb := B2
           clear bb
           refine (most_any _).mono ?_
           rintro e w4 ⟨rfl, b4⟩
           have B4 : Below W.heap.size W w4 := B2.trans (b4.mono B2.size)
           clear b4)
        | (go_at_call 171
           refine (most_any _).mono ?_
           rintro e w2 ⟨rfl, b2⟩
           have B2 : Below W.heap.size W w2 := (Below.refl _ _).drew.trans b2
           clear b2)
        | (go_at_call 154
           have bb := B4
           clear bb
           refine (H.out.2.1 _).mono ?_
           rintro e w5 ⟨rfl, rfl⟩)
        | (go_at_call 154
           refine (H.out.1 _).mono ?_
           rintro e w3 ⟨rfl, rfl⟩)
        | fail)
    have HB := Lib.hid B4
    clear B2 B4
    go_wp2_with fail
    go_ret
    exact ⟨by simp, H.out.2.2.trans (HB.out.mono H.out.2.2.size)⟩

set_option maxRecDepth 100000 in
set_option maxHeartbeats 2000000 in
theorem right2_any (s : Int × Int) (w : World) :
    Calls Tryz.prog 158 #[.agg #[.int .i64 s.1, .int .i64 s.2], .int .i64 2] w fun e w' => e = .returned (.bool (spanOk s 100)) ∧ Below w.heap.size w w' := by
  obtain ⟨W, hW⟩ : ∃ W, W = w.alloc (.cells #[.int .i64 s.1, .int .i64 s.2] 71) := ⟨_, rfl⟩
  obtain ⟨ib, hib⟩ : ∃ b, b = w.heap.size := ⟨_, rfl⟩
  have hh : W.heap[ib]? = some (.cells #[.int .i64 s.1, .int .i64 s.2] 71 (0, 0)) := by rw [hW, hib]; exact heap_alloc_new _ _
  have bW : Below w.heap.size w W := by rw [hW]; exact (Below.refl _ _).alloc (Nat.le_refl _) _
  have c0 := (cell_of_heap hh 0).trans rfl
  have c1 := (cell_of_heap hh 1).trans rfl
  have zb := heap_lt hh
  have KC : ∀ {b o : Nat} {u : Value}, W.cell? ⟨b, o, none⟩ = some u → ∀ w', Below W.heap.size W w' → w'.cell? ⟨b, o, none⟩ = some u := fun h w' hb => (hb.cell (World.block_lt_of_cell? W _ h)).trans h
  have c0' := KC c0
  have c1' := KC c1
  clear KC hh
  obtain ⟨r1, hr1⟩ : ∃ r, r = within s.1 0 100 := ⟨_, rfl⟩
  obtain ⟨r2, hr2⟩ : ∃ r, r = within s.2 s.1 100 := ⟨_, rfl⟩
  have hs : spanOk s 100 = (r1 && r2) := by rw [hr1, hr2]; rfl
  rw [hs]
  have k1 : ∀ wx, Calls Tryz.prog 154 #[.int .i64 s.1, .int .i64 0, .int .i64 100] wx fun e w' => e = .returned (.bool r1) ∧ wx = w' := fun wx => by rw [hr1]; exact icein_any _ _ _ wx
  have k2 : ∀ wx, Calls Tryz.prog 154 #[.int .i64 s.2, .int .i64 s.1, .int .i64 100] wx fun e w' => e = .returned (.bool r2) ∧ wx = w' := fun wx => by rw [hr2]; exact icein_any _ _ _ wx
  have H := Lib.hid (And.intro k1 (And.intro k2 bW))
  clear hr1 hr2 hs k1 k2 bW
  have hx := fun w => (most_index w).2.1
  cases r1
  · go_enter Tryz.func158, Tryz.ntmps158
    go_upto_region 1 with fail
    rw [← hW, ← hib]
    clear hW hib
    refine wp_region_stepsG (σ := Unit) (by kernel_rfl) (by kernel_rfl) (fun _ jx vx _ => RiV s ib 2 100 jx vx) (fun _ ly wx => Below W.heap.size W wx) () ?_ ?_ ?_
    · exact (Below.refl _ _).drew
    · simp only [AllFrom, Nat.zero_add, Nat.reduceAdd]
      refine ⟨?_, ?_, ?_, ?_, ?_, ?_, ?_, ?_, ?_, ?_, ?_, ?_, ?_, ?_, ?_, ?_, ?_, trivial⟩
      · refine stepG_plain rfl (step_pure fun sg ly a wr hl hd hW hF => ?_)
        have et2 := hF.old 2 (by kernel_rfl)
        simp [Act.eval] at et2
        exact ⟨hW, _, by go_simp, rfl⟩
      · refine stepG_plain rfl (step_pure fun sg ly a wr hl hd hW hF => ?_)
        simp [Region.binds] at hd
        have et5 := hF.new 0 5 (by simp [hd]) rfl
        simp [RiV, Act.eval] at et5
        have k0 := c0' _ hW
        exact ⟨hW, _, by go_simp, rfl⟩
      · refine stepG_plain rfl (step_call fun sg ly a wr hl hd hW hF => ?_)
        refine ⟨171, #[], by go_simp, ?_⟩
        refine (most_any wr).mono ?_
        rintro e w2 ⟨rfl, b2⟩
        exact ⟨_, (), rfl, hW.trans (b2.mono hW.size), rfl, fun _ _ _ h => h⟩
      · refine stepG_plain rfl (step_pure fun sg ly a wr hl hd hW hF => ?_)
        have et1 := hF.old 1 (by kernel_rfl)
        simp [Act.eval] at et1
        exact ⟨hW, _, by go_simp, rfl⟩
      · refine stepG_plain rfl (step_pure fun sg ly a wr hl hd hW hF => ?_)
        simp [Region.binds] at hd
        have et7 := hF.new 2 7 (by simp [hd]) rfl
        simp [RiV, Act.eval] at et7
        have et8 := hF.new 3 8 (by simp [hd]) rfl
        simp [RiV, Act.eval] at et8
        exact ⟨hW, _, by go_simp, rfl⟩
      · refine stepG_plain rfl (step_call fun sg ly a wr hl hd hW hF => ?_)
        simp [Region.binds] at hd
        have et6 := hF.new 1 6 (by simp [hd]) rfl
        simp [RiV, Act.eval] at et6
        have et9 := hF.new 4 9 (by simp [hd]) rfl
        simp [RiV, Act.eval] at et9
        refine ⟨154, #[.int .i64 s.1, .int .i64 0, .int .i64 100], by go_simp, ?_⟩
        refine (H.out.1 wr).mono ?_
        rintro e w2 ⟨rfl, rfl⟩
        exact ⟨_, (), rfl, hW, rfl, fun _ _ _ h => h⟩
      · refine stepG_plain rfl (step_pure fun sg ly a wr hl hd hW hF => ?_)
        simp [Region.binds] at hd
        have et10 := hF.new 5 10 (by simp [hd]) rfl
        simp [RiV, Act.eval] at et10
        exact ⟨hW, _, by go_simp, rfl⟩
      · refine stepG_guard (fun sg ly a wr hl hd hW hF hw => ?_) (fun sg ly a wr hl hd hW hF hw => ⟨hW, trivial⟩)
        simp [Region.binds] at hd
        obtain ⟨u, hu, hp⟩ := hF.vals 6 _ 11 (by simp [hd]) rfl rfl
        simp [RiV] at hp
        subst hp
        simp [Region.wanted, yielded, hu] at hw
      · refine stepG_guard (fun sg ly a wr hl hd hW hF hw => ?_) (fun sg ly a wr hl hd hW hF hw => ⟨hW, trivial⟩)
        simp [Region.binds] at hd
        obtain ⟨u, hu, hp⟩ := hF.vals 6 _ 11 (by simp [hd]) rfl rfl
        simp [RiV] at hp
        subst hp
        simp [Region.wanted, yielded, hu] at hw
      · refine stepG_guard (fun sg ly a wr hl hd hW hF hw => ?_) (fun sg ly a wr hl hd hW hF hw => ⟨hW, trivial⟩)
        simp [Region.binds] at hd
        obtain ⟨u, hu, hp⟩ := hF.vals 6 _ 11 (by simp [hd]) rfl rfl
        simp [RiV] at hp
        subst hp
        simp [Region.wanted, yielded, hu] at hw
      · refine stepG_guard (fun sg ly a wr hl hd hW hF hw => ?_) (fun sg ly a wr hl hd hW hF hw => ⟨hW, trivial⟩)
        simp [Region.binds] at hd
        obtain ⟨u, hu, hp⟩ := hF.vals 6 _ 11 (by simp [hd]) rfl rfl
        simp [RiV] at hp
        subst hp
        simp [Region.wanted, yielded, hu] at hw
      · refine stepG_guard (fun sg ly a wr hl hd hW hF hw => ?_) (fun sg ly a wr hl hd hW hF hw => ⟨hW, trivial⟩)
        simp [Region.binds] at hd
        obtain ⟨u, hu, hp⟩ := hF.vals 6 _ 11 (by simp [hd]) rfl rfl
        simp [RiV] at hp
        subst hp
        simp [Region.wanted, yielded, hu] at hw
      · refine stepG_guard (fun sg ly a wr hl hd hW hF hw => ?_) (fun sg ly a wr hl hd hW hF hw => ⟨hW, trivial⟩)
        simp [Region.binds] at hd
        obtain ⟨u, hu, hp⟩ := hF.vals 6 _ 11 (by simp [hd]) rfl rfl
        simp [RiV] at hp
        subst hp
        simp [Region.wanted, yielded, hu] at hw
      · refine stepG_guard (fun sg ly a wr hl hd hW hF hw => ?_) (fun sg ly a wr hl hd hW hF hw => ⟨hW, trivial⟩)
        simp [Region.binds] at hd
        obtain ⟨u, hu, hp⟩ := hF.vals 6 _ 11 (by simp [hd]) rfl rfl
        simp [RiV] at hp
        subst hp
        simp [Region.wanted, yielded, hu] at hw
      · refine stepG_guard (fun sg ly a wr hl hd hW hF hw => ?_) (fun sg ly a wr hl hd hW hF hw => ⟨hW, trivial⟩)
        simp [Region.binds] at hd
        obtain ⟨u, hu, hp⟩ := hF.vals 6 _ 11 (by simp [hd]) rfl rfl
        simp [RiV] at hp
        subst hp
        simp [Region.wanted, yielded, hu] at hw
      · refine stepG_plain rfl (step_pure fun sg ly a wr hl hd hW hF => ?_)
        simp [Region.binds] at hd
        have et11 := hF.new 6 11 (by simp [hd]) rfl
        simp [RiV, Act.eval] at et11
        exact ⟨hW, _, by go_simp, rfl⟩
      · refine stepG_plain rfl (step_pure fun sg ly a wr hl hd hW hF => ?_)
        simp [Region.binds] at hd
        have et20 := hF.new 15 20 (by simp [hd]) rfl
        simp [RiV, Act.eval] at et20
        exact ⟨hW, _, by go_simp, rfl⟩
    intro sg a w5 hW hF
    have e4 := hF.new 16 4 (by decide) rfl
    obtain ⟨f, hf, rfl⟩ := hF.lit
    rw [← hf] at e4
    simp only [RiV] at e4
    have HB := Lib.hid hW
    clear hf hF hW
    simp only [List.filterMap, List.foldl, List.setIfInBounds_toArray, List.set_cons_succ, List.set_cons_zero, e4]
    clear e4
    go_wp2_with fail
    go_ret
    exact ⟨rfl, H.out.2.2.trans (HB.out.mono H.out.2.2.size)⟩
  · go_enter Tryz.func158, Tryz.ntmps158
    go_upto_region 1 with fail
    rw [← hW, ← hib]
    clear hW hib
    go_region_held3 (fun w' => Below W.heap.size W w') (first | exact (Below.refl _ _).drew | assumption)
      (first
        | (go_at_call 171
           have bb := B2
           clear bb
           refine (most_any _).mono ?_
           rintro e w4 ⟨rfl, b4⟩
           have B4 : Below W.heap.size W w4 := B2.trans (b4.mono B2.size)
           clear b4)
        | (go_at_call 171
           refine (most_any _).mono ?_
           rintro e w2 ⟨rfl, b2⟩
           have B2 : Below W.heap.size W w2 := (Below.refl _ _).drew.trans b2
           clear b2)
        | (go_at_call 154
           have bb := B4
           clear bb
           refine (H.out.2.1 _).mono ?_
           rintro e w5 ⟨rfl, rfl⟩)
        | (go_at_call 154
           refine (H.out.1 _).mono ?_
           rintro e w3 ⟨rfl, rfl⟩)
        | fail)
    have HB := Lib.hid B4
    clear B2 B4
    go_wp2_with fail
    go_ret
    exact ⟨by simp, H.out.2.2.trans (HB.out.mono H.out.2.2.size)⟩

set_option maxRecDepth 100000 in
set_option maxHeartbeats 2000000 in
theorem right3_any (s : Int × Int) (w : World) :
    Calls Tryz.prog 158 #[.agg #[.int .i64 s.1, .int .i64 s.2], .int .i64 3] w fun e w' => e = .returned (.bool (spanOk s 3)) ∧ Below w.heap.size w w' := by
  obtain ⟨W, hW⟩ : ∃ W, W = w.alloc (.cells #[.int .i64 s.1, .int .i64 s.2] 71) := ⟨_, rfl⟩
  obtain ⟨ib, hib⟩ : ∃ b, b = w.heap.size := ⟨_, rfl⟩
  have hh : W.heap[ib]? = some (.cells #[.int .i64 s.1, .int .i64 s.2] 71 (0, 0)) := by rw [hW, hib]; exact heap_alloc_new _ _
  have bW : Below w.heap.size w W := by rw [hW]; exact (Below.refl _ _).alloc (Nat.le_refl _) _
  have c0 := (cell_of_heap hh 0).trans rfl
  have c1 := (cell_of_heap hh 1).trans rfl
  have zb := heap_lt hh
  have KC : ∀ {b o : Nat} {u : Value}, W.cell? ⟨b, o, none⟩ = some u → ∀ w', Below W.heap.size W w' → w'.cell? ⟨b, o, none⟩ = some u := fun h w' hb => (hb.cell (World.block_lt_of_cell? W _ h)).trans h
  have c0' := KC c0
  have c1' := KC c1
  clear KC hh
  obtain ⟨r1, hr1⟩ : ∃ r, r = within s.1 0 3 := ⟨_, rfl⟩
  obtain ⟨r2, hr2⟩ : ∃ r, r = within s.2 s.1 3 := ⟨_, rfl⟩
  have hs : spanOk s 3 = (r1 && r2) := by rw [hr1, hr2]; rfl
  rw [hs]
  have k1 : ∀ wx, Calls Tryz.prog 154 #[.int .i64 s.1, .int .i64 0, .int .i64 3] wx fun e w' => e = .returned (.bool r1) ∧ wx = w' := fun wx => by rw [hr1]; exact icein_any _ _ _ wx
  have k2 : ∀ wx, Calls Tryz.prog 154 #[.int .i64 s.2, .int .i64 s.1, .int .i64 3] wx fun e w' => e = .returned (.bool r2) ∧ wx = w' := fun wx => by rw [hr2]; exact icein_any _ _ _ wx
  have H := Lib.hid (And.intro k1 (And.intro k2 bW))
  clear hr1 hr2 hs k1 k2 bW
  have hx := fun w => (most_index w).2.2
  cases r1
  · go_enter Tryz.func158, Tryz.ntmps158
    go_upto_region 1 with fail
    rw [← hW, ← hib]
    clear hW hib
    refine wp_region_stepsG (σ := Unit) (by kernel_rfl) (by kernel_rfl) (fun _ jx vx _ => RiV s ib 3 3 jx vx) (fun _ ly wx => Below W.heap.size W wx) () ?_ ?_ ?_
    · exact (Below.refl _ _).drew
    · simp only [AllFrom, Nat.zero_add, Nat.reduceAdd]
      refine ⟨?_, ?_, ?_, ?_, ?_, ?_, ?_, ?_, ?_, ?_, ?_, ?_, ?_, ?_, ?_, ?_, ?_, trivial⟩
      · refine stepG_plain rfl (step_pure fun sg ly a wr hl hd hW hF => ?_)
        have et2 := hF.old 2 (by kernel_rfl)
        simp [Act.eval] at et2
        exact ⟨hW, _, by go_simp, rfl⟩
      · refine stepG_plain rfl (step_pure fun sg ly a wr hl hd hW hF => ?_)
        simp [Region.binds] at hd
        have et5 := hF.new 0 5 (by simp [hd]) rfl
        simp [RiV, Act.eval] at et5
        have k0 := c0' _ hW
        exact ⟨hW, _, by go_simp, rfl⟩
      · refine stepG_plain rfl (step_call fun sg ly a wr hl hd hW hF => ?_)
        refine ⟨171, #[], by go_simp, ?_⟩
        refine (most_any wr).mono ?_
        rintro e w2 ⟨rfl, b2⟩
        exact ⟨_, (), rfl, hW.trans (b2.mono hW.size), rfl, fun _ _ _ h => h⟩
      · refine stepG_plain rfl (step_pure fun sg ly a wr hl hd hW hF => ?_)
        have et1 := hF.old 1 (by kernel_rfl)
        simp [Act.eval] at et1
        exact ⟨hW, _, by go_simp, rfl⟩
      · refine stepG_plain rfl (step_pure fun sg ly a wr hl hd hW hF => ?_)
        simp [Region.binds] at hd
        have et7 := hF.new 2 7 (by simp [hd]) rfl
        simp [RiV, Act.eval] at et7
        have et8 := hF.new 3 8 (by simp [hd]) rfl
        simp [RiV, Act.eval] at et8
        exact ⟨hW, _, by go_simp, rfl⟩
      · refine stepG_plain rfl (step_call fun sg ly a wr hl hd hW hF => ?_)
        simp [Region.binds] at hd
        have et6 := hF.new 1 6 (by simp [hd]) rfl
        simp [RiV, Act.eval] at et6
        have et9 := hF.new 4 9 (by simp [hd]) rfl
        simp [RiV, Act.eval] at et9
        refine ⟨154, #[.int .i64 s.1, .int .i64 0, .int .i64 3], by go_simp, ?_⟩
        refine (H.out.1 wr).mono ?_
        rintro e w2 ⟨rfl, rfl⟩
        exact ⟨_, (), rfl, hW, rfl, fun _ _ _ h => h⟩
      · refine stepG_plain rfl (step_pure fun sg ly a wr hl hd hW hF => ?_)
        simp [Region.binds] at hd
        have et10 := hF.new 5 10 (by simp [hd]) rfl
        simp [RiV, Act.eval] at et10
        exact ⟨hW, _, by go_simp, rfl⟩
      · refine stepG_guard (fun sg ly a wr hl hd hW hF hw => ?_) (fun sg ly a wr hl hd hW hF hw => ⟨hW, trivial⟩)
        simp [Region.binds] at hd
        obtain ⟨u, hu, hp⟩ := hF.vals 6 _ 11 (by simp [hd]) rfl rfl
        simp [RiV] at hp
        subst hp
        simp [Region.wanted, yielded, hu] at hw
      · refine stepG_guard (fun sg ly a wr hl hd hW hF hw => ?_) (fun sg ly a wr hl hd hW hF hw => ⟨hW, trivial⟩)
        simp [Region.binds] at hd
        obtain ⟨u, hu, hp⟩ := hF.vals 6 _ 11 (by simp [hd]) rfl rfl
        simp [RiV] at hp
        subst hp
        simp [Region.wanted, yielded, hu] at hw
      · refine stepG_guard (fun sg ly a wr hl hd hW hF hw => ?_) (fun sg ly a wr hl hd hW hF hw => ⟨hW, trivial⟩)
        simp [Region.binds] at hd
        obtain ⟨u, hu, hp⟩ := hF.vals 6 _ 11 (by simp [hd]) rfl rfl
        simp [RiV] at hp
        subst hp
        simp [Region.wanted, yielded, hu] at hw
      · refine stepG_guard (fun sg ly a wr hl hd hW hF hw => ?_) (fun sg ly a wr hl hd hW hF hw => ⟨hW, trivial⟩)
        simp [Region.binds] at hd
        obtain ⟨u, hu, hp⟩ := hF.vals 6 _ 11 (by simp [hd]) rfl rfl
        simp [RiV] at hp
        subst hp
        simp [Region.wanted, yielded, hu] at hw
      · refine stepG_guard (fun sg ly a wr hl hd hW hF hw => ?_) (fun sg ly a wr hl hd hW hF hw => ⟨hW, trivial⟩)
        simp [Region.binds] at hd
        obtain ⟨u, hu, hp⟩ := hF.vals 6 _ 11 (by simp [hd]) rfl rfl
        simp [RiV] at hp
        subst hp
        simp [Region.wanted, yielded, hu] at hw
      · refine stepG_guard (fun sg ly a wr hl hd hW hF hw => ?_) (fun sg ly a wr hl hd hW hF hw => ⟨hW, trivial⟩)
        simp [Region.binds] at hd
        obtain ⟨u, hu, hp⟩ := hF.vals 6 _ 11 (by simp [hd]) rfl rfl
        simp [RiV] at hp
        subst hp
        simp [Region.wanted, yielded, hu] at hw
      · refine stepG_guard (fun sg ly a wr hl hd hW hF hw => ?_) (fun sg ly a wr hl hd hW hF hw => ⟨hW, trivial⟩)
        simp [Region.binds] at hd
        obtain ⟨u, hu, hp⟩ := hF.vals 6 _ 11 (by simp [hd]) rfl rfl
        simp [RiV] at hp
        subst hp
        simp [Region.wanted, yielded, hu] at hw
      · refine stepG_guard (fun sg ly a wr hl hd hW hF hw => ?_) (fun sg ly a wr hl hd hW hF hw => ⟨hW, trivial⟩)
        simp [Region.binds] at hd
        obtain ⟨u, hu, hp⟩ := hF.vals 6 _ 11 (by simp [hd]) rfl rfl
        simp [RiV] at hp
        subst hp
        simp [Region.wanted, yielded, hu] at hw
      · refine stepG_plain rfl (step_pure fun sg ly a wr hl hd hW hF => ?_)
        simp [Region.binds] at hd
        have et11 := hF.new 6 11 (by simp [hd]) rfl
        simp [RiV, Act.eval] at et11
        exact ⟨hW, _, by go_simp, rfl⟩
      · refine stepG_plain rfl (step_pure fun sg ly a wr hl hd hW hF => ?_)
        simp [Region.binds] at hd
        have et20 := hF.new 15 20 (by simp [hd]) rfl
        simp [RiV, Act.eval] at et20
        exact ⟨hW, _, by go_simp, rfl⟩
    intro sg a w5 hW hF
    have e4 := hF.new 16 4 (by decide) rfl
    obtain ⟨f, hf, rfl⟩ := hF.lit
    rw [← hf] at e4
    simp only [RiV] at e4
    have HB := Lib.hid hW
    clear hf hF hW
    simp only [List.filterMap, List.foldl, List.setIfInBounds_toArray, List.set_cons_succ, List.set_cons_zero, e4]
    clear e4
    go_wp2_with fail
    go_ret
    exact ⟨rfl, H.out.2.2.trans (HB.out.mono H.out.2.2.size)⟩
  · go_enter Tryz.func158, Tryz.ntmps158
    go_upto_region 1 with fail
    rw [← hW, ← hib]
    clear hW hib
    go_region_held3 (fun w' => Below W.heap.size W w') (first | exact (Below.refl _ _).drew | assumption)
      (first
        | (go_at_call 171
           have bb := B2
           clear bb
           refine (most_any _).mono ?_
           rintro e w4 ⟨rfl, b4⟩
           have B4 : Below W.heap.size W w4 := B2.trans (b4.mono B2.size)
           clear b4)
        | (go_at_call 171
           refine (most_any _).mono ?_
           rintro e w2 ⟨rfl, b2⟩
           have B2 : Below W.heap.size W w2 := (Below.refl _ _).drew.trans b2
           clear b2)
        | (go_at_call 154
           have bb := B4
           clear bb
           refine (H.out.2.1 _).mono ?_
           rintro e w5 ⟨rfl, rfl⟩)
        | (go_at_call 154
           refine (H.out.1 _).mono ?_
           rintro e w3 ⟨rfl, rfl⟩)
        | fail)
    have HB := Lib.hid B4
    clear B2 B4
    go_wp2_with fail
    go_ret
    exact ⟨by simp, H.out.2.2.trans (HB.out.mono H.out.2.2.size)⟩

end Go.Proofs.YtaokegobilphnaaGreatDoor
/- cells of a chart -/
namespace Go.Proofs.YtaokegobilphnaaGreatDoor
open Go Go.RowKit Sp
set_option linter.unusedVariables false

/-- a cell of a chart: four spans -/
structure Cel where
  a0 : Int
  a1 : Int
  b0 : Int
  b1 : Int
  c0 : Int
  c1 : Int
  d0 : Int
  d1 : Int
deriving DecidableEq, Inhabited
def cel (x : Cel) : List Value := [.int .i64 x.a0, .int .i64 x.a1, .int .i64 x.b0, .int .i64 x.b1, .int .i64 x.c0, .int .i64 x.c1, .int .i64 x.d0, .int .i64 x.d1]
abbrev celA (x : Cel) : Array Value := #[.int .i64 x.a0, .int .i64 x.a1, .int .i64 x.b0, .int .i64 x.b1, .int .i64 x.c0, .int .i64 x.c1, .int .i64 x.d0, .int .i64 x.d1]
def cels (l : List Cel) : List Value := l.flatMap cel
theorem cels_one (l : List Cel) : ∀ u ∈ cels l, u.oneCell' = true := by
  intro u hu
  simp only [cels, cel, List.mem_flatMap] at hu
  obtain ⟨x, _, hx⟩ := hu
  simp at hx
  rcases hx with rfl | rfl | rfl | rfl | rfl | rfl | rfl | rfl <;> rfl
theorem cels_get {l : List Cel} {k : Nat} (hk : k < l.length) : (cels l)[k*8]? = some (.int .i64 l[k].a0) ∧ (cels l)[k*8+1]? = some (.int .i64 l[k].a1) ∧ (cels l)[k*8+2]? = some (.int .i64 l[k].b0) ∧ (cels l)[k*8+3]? = some (.int .i64 l[k].b1) ∧
    (cels l)[k*8+4]? = some (.int .i64 l[k].c0) ∧ (cels l)[k*8+5]? = some (.int .i64 l[k].c1) ∧ (cels l)[k*8+6]? = some (.int .i64 l[k].d0) ∧ (cels l)[k*8+7]? = some (.int .i64 l[k].d1) := by
  induction l generalizing k with
  | nil => simp at hk
  | cons s l ih =>
    cases k with
    | zero => simp [cels, cel]
    | succ k =>
      have h4 : ∀ j, (cels (s :: l))[8 + j]? = (cels l)[j]? := fun j => by
        simp only [cels, List.flatMap_cons, cel]
        rw [List.getElem?_append_right (by simp)]
        simp
      have e : ∀ j, (k+1)*8 + j = 8 + (k*8 + j) := fun j => by omega
      have e0 : (k+1)*8 = 8 + k*8 := by omega
      have hk' : k < l.length := by simpa using hk
      rw [e, e, e, e, e, e, e, e0, h4, h4, h4, h4, h4, h4, h4, h4]
      simpa using ih hk'
end Go.Proofs.YtaokegobilphnaaGreatDoor
/- ice: CheckCell -/
namespace Go.Proofs.YtaokegobilphnaaGreatDoor
open Go Go.RowKit Sp
set_option linter.unusedVariables false

def celOk (x : Cel) : Bool := spanOk (x.a0, x.a1) 100 && spanOk (x.b0, x.b1) 400 && spanOk (x.c0, x.c1) 100 && spanOk (x.d0, x.d1) 3
def celN (x : Cel) : Nat → Bool
  | 0 => spanOk (x.a0, x.a1) 100
  | 1 => spanOk (x.b0, x.b1) 400
  | 2 => spanOk (x.c0, x.c1) 100
  | _ => spanOk (x.d0, x.d1) 3
def celE (x : Cel) : Int := if celOk x then 0 else 20

theorem spans_any (x : Cel) (w : World) :
    Calls Tryz.prog 155 #[.agg (celA x)] w fun e w' => e = .returned (.agg (celA x)) ∧ Below w.heap.size w w' := by
  go_enter Tryz.func155, Tryz.ntmps155
  go_wp2_with fail
  exact bodyPost_ret (v := .agg (celA x)) (by simp [results, Tryz.results155, go_sem]) rfl ⟨rfl, ((Below.refl _ _).alloc (Nat.le_refl _) _).alloc (by simp) _⟩

set_option maxRecDepth 100000 in
set_option maxHeartbeats 1000000 in
theorem ckcel_any (x : Cel) (b : Nat) (k : Nat) (hk : k < 4) (w : World) (hb : w.heap[b]? = some (.cells (celA x) 219 (0, 0))) :
    Calls Tryz.prog 157 #[.int .i64 k, .pointer (some ⟨b, 0, none⟩)] w fun e w' => e = .returned (.bool (celN x k)) ∧ Below w.heap.size w w' := by
  have c0 := (cell_of_heap hb 0).trans rfl
  have c1 := (cell_of_heap hb 1).trans rfl
  have c2 := (cell_of_heap hb 2).trans rfl
  have c3 := (cell_of_heap hb 3).trans rfl
  have c4 := (cell_of_heap hb 4).trans rfl
  have c5 := (cell_of_heap hb 5).trans rfl
  have c6 := (cell_of_heap hb 6).trans rfl
  have c7 := (cell_of_heap hb 7).trans rfl
  have zb := heap_lt hb
  clear hb
  rcases (by omega : k = 0 ∨ k = 1 ∨ k = 2 ∨ k = 3) with rfl | rfl | rfl | rfl
  · have H := Lib.hid (right0_any (x.a0, x.a1) w)
    show Calls Tryz.prog 157 #[.int .i64 0, .pointer (some ⟨b, 0, none⟩)] w _
    go_enter Tryz.func157, Tryz.ntmps157
    go_wp2_with (go_at_call 158; refine H.out.mono ?_; rintro e w2 ⟨rfl, b2⟩)
    go_ret
    exact ⟨rfl, b2⟩
  · have H := Lib.hid (right1_any (x.b0, x.b1) w)
    show Calls Tryz.prog 157 #[.int .i64 1, .pointer (some ⟨b, 0, none⟩)] w _
    go_enter Tryz.func157, Tryz.ntmps157
    go_wp2_with (go_at_call 158; refine H.out.mono ?_; rintro e w2 ⟨rfl, b2⟩)
    go_ret
    exact ⟨rfl, b2⟩
  · have H := Lib.hid (right2_any (x.c0, x.c1) w)
    show Calls Tryz.prog 157 #[.int .i64 2, .pointer (some ⟨b, 0, none⟩)] w _
    go_enter Tryz.func157, Tryz.ntmps157
    go_wp2_with (go_at_call 158; refine H.out.mono ?_; rintro e w2 ⟨rfl, b2⟩)
    go_ret
    exact ⟨rfl, b2⟩
  · have H := Lib.hid (right3_any (x.d0, x.d1) w)
    show Calls Tryz.prog 157 #[.int .i64 3, .pointer (some ⟨b, 0, none⟩)] w _
    go_enter Tryz.func157, Tryz.ntmps157
    go_wp2_with (go_at_call 158; refine H.out.mono ?_; rintro e w2 ⟨rfl, b2⟩)
    go_ret
    exact ⟨rfl, b2⟩

set_option maxRecDepth 100000 in
set_option maxHeartbeats 1000000 in
theorem allCel_any (b : Nat) (g : Nat → Bool) (w : World) (hg : ∀ k : Nat, k < 4 → ∀ wx, Below w.heap.size w wx → Calls Tryz.prog 157 #[.int .i64 k, .pointer (some ⟨b, 0, none⟩)] wx fun e w' => e = .returned (.bool (g k)) ∧ Below wx.heap.size wx w') :
    Calls Tryz.prog 156 #[.func (.func 157) #[] #[.pointer (some ⟨b, 0, none⟩)]] w fun e w' => e = .returned (.bool (g 0 && g 1 && g 2 && g 3)) ∧ Below w.heap.size w w' := by
  have HG := Lib.hid hg
  clear hg
  go_enter Tryz.func156, Tryz.ntmps156
  go_wp2_with (go_at_call 171; refine (most_any _).mono ?_; rintro e w1 ⟨rfl, b1⟩)
  go_loopw [5] (fun i wr => ∃ k : Nat, k ≤ 4 ∧ i = .int .i64 k ∧ (∀ j, j < k → g j = true) ∧ Below w.heap.size w wr) (fun i _ => 4 - (intOf i).toNat)
  case atStart => exact ⟨0, by omega, rfl, by omega, b1⟩
  case round =>
    obtain ⟨k, hk, rfl, hall, hb⟩ := hrel
    have HB := Lib.hid (And.intro hall hb)
    clear hall hb b1
    by_cases hlt : k < 4
    · obtain ⟨r, hr⟩ : ∃ r, r = g k := ⟨_, rfl⟩
      have hc := HG.out k hlt wr HB.out.2
      rw [← hr] at hc
      have n2 : (k : Int) < 4 := by omega
      have HC := Lib.hid (And.intro hc hr)
      clear hc hr
      cases r
      · go_wp2_with (go_at_call 157; refine HC.out.1.mono ?_; rintro e w2 ⟨rfl, b2⟩)
        go_ret
        refine ⟨?_, HB.out.2.trans (b2.mono HB.out.2.size)⟩
        have hf := HC.out.2.symm
        have : (g 0 && g 1 && g 2 && g 3) = false := by
          rcases (by omega : k = 0 ∨ k = 1 ∨ k = 2 ∨ k = 3) with rfl | rfl | rfl | rfl <;> simp [hf]
        rw [this]; rfl
      · go_wp2_with (go_at_call 157; refine HC.out.1.mono ?_; rintro e w2 ⟨rfl, b2⟩)
        go_roundw
        case measure => simp [intOf]; omega
        case rel =>
          refine ⟨k + 1, by omega, by go_num, fun j hj => ?_, HB.out.2.trans (b2.mono HB.out.2.size)⟩
          by_cases h : j = k
          · rw [h, ← HC.out.2]
          · exact HB.out.1 j (by omega)
    · obtain rfl : k = 4 := by omega
      go_wp2_with fail
      go_ret
      refine ⟨?_, HB.out.2⟩
      have h := HB.out.1
      rw [h 0 (by omega), h 1 (by omega), h 2 (by omega), h 3 (by omega)]; rfl

set_option maxRecDepth 100000 in
set_option maxHeartbeats 1000000 in
theorem checkCell_any (x : Cel) (w : World) :
    Calls Tryz.prog 130 #[.agg (celA x)] w fun e w' => e = .returned (.int .i64 (celE x)) ∧ Below w.heap.size w w' := by
  obtain ⟨r, hr⟩ : ∃ r, r = celOk x := ⟨_, rfl⟩
  have hE : celE x = if r then 0 else 20 := by rw [hr]; rfl
  have b0 : Below w.heap.size w (w.alloc (.cells (celA x) 73)) := (Below.refl _ _).alloc (Nat.le_refl _) _
  have HR := Lib.hid (And.intro hr (And.intro hE b0))
  clear hr hE b0
  go_enter Tryz.func130, Tryz.ntmps130
  go_upto_region 2 with (go_at_call 155; refine (spans_any x _).mono ?_; rintro e w1 ⟨rfl, b1⟩)
  have bb := HR.out.2.2.trans (b1.mono (by simp))
  obtain ⟨W, hW⟩ : ∃ W, W = w1.alloc (.cells (celA x) 219) := ⟨_, rfl⟩
  obtain ⟨nb, hnb⟩ : ∃ b, b = w1.heap.size := ⟨_, rfl⟩
  have hh : W.heap[nb]? = some (.cells (celA x) 219 (0, 0)) := by rw [hW, hnb]; exact heap_alloc_new _ _
  have bW : Below w.heap.size w W := by rw [hW]; exact bb.alloc bb.size _
  rw [← hW, ← hnb]
  have ka := allCel_any nb (celN x) W (fun (k : Nat) hk wx hx => ckcel_any x nb k hk wx ((hx.block _ (heap_lt hh)).trans hh))
  have hk : (celN x 0 && celN x 1 && celN x 2 && celN x 3) = r := HR.out.1.symm
  rw [hk] at ka
  have HA := Lib.hid (And.intro ka bW)
  clear ka bW hh hW hnb bb b1 hk
  cases r
  · go_wp2_with (go_at_call 156; refine HA.out.1.mono ?_; rintro e w2 ⟨rfl, b2⟩)
    go_ret
    exact ⟨by rw [HR.out.2.1]; rfl, HA.out.2.trans (b2.mono HA.out.2.size)⟩
  · go_wp2_with (go_at_call 156; refine HA.out.1.mono ?_; rintro e w2 ⟨rfl, b2⟩)
    go_ret
    exact ⟨by rw [HR.out.2.1]; rfl, HA.out.2.trans (b2.mono HA.out.2.size)⟩
end Go.Proofs.YtaokegobilphnaaGreatDoor
/- ice: size, wrong of cells, CheckChart -/
namespace Go.Proofs.YtaokegobilphnaaGreatDoor
open Go Go.RowKit Sp
set_option linter.unusedVariables false

def sizeOk (a b c : Int) : Bool := within a 1 64 && within b 1 64 && decide (a * b ≤ 1024) && within c 0 10000
def sizeE (a b c : Int) : Int := if sizeOk a b c then 0 else 6
def celsE (l : List Cel) : Int := if l.all celOk then 0 else 20
def chartE (a b c : Int) (l : List Cel) : Int := if sizeE a b c ≠ 0 then sizeE a b c else if (l.length : Int) ≠ a * b then 1 else celsE l

set_option maxRecDepth 100000 in
set_option maxHeartbeats 1000000 in
theorem size_any (a b c : Int) (w : World) :
    Calls Tryz.prog 128 #[.int .i64 a, .int .i64 b, .int .i64 c] w fun e w' => e = .returned (.int .i64 (sizeE a b c)) ∧ w = w' := by
  obtain ⟨r1, hr1⟩ : ∃ r, r = within a 1 64 := ⟨_, rfl⟩
  obtain ⟨r2, hr2⟩ : ∃ r, r = within b 1 64 := ⟨_, rfl⟩
  obtain ⟨r3, hr3⟩ : ∃ r, r = within c 0 10000 := ⟨_, rfl⟩
  have k1 : ∀ wx, Calls Tryz.prog 154 #[.int .i64 a, .int .i64 1, .int .i64 64] wx fun e w' => e = .returned (.bool r1) ∧ wx = w' := fun wx => by rw [hr1]; exact icein_any _ _ _ wx
  have k2 : ∀ wx, Calls Tryz.prog 154 #[.int .i64 b, .int .i64 1, .int .i64 64] wx fun e w' => e = .returned (.bool r2) ∧ wx = w' := fun wx => by rw [hr2]; exact icein_any _ _ _ wx
  have k3 : ∀ wx, Calls Tryz.prog 154 #[.int .i64 c, .int .i64 0, .int .i64 10000] wx fun e w' => e = .returned (.bool r3) ∧ wx = w' := fun wx => by rw [hr3]; exact icein_any _ _ _ wx
  have hE : sizeE a b c = if (r1 && r2 && decide (a * b ≤ 1024) && r3) = true then 0 else 6 := by rw [hr1, hr2, hr3]; rfl
  have hab : r1 = true → r2 = true → 0 ≤ a * b ∧ a * b ≤ 4096 := fun h1 h2 => by
    rw [hr1] at h1; rw [hr2] at h2
    simp [within] at h1 h2
    refine ⟨Int.mul_nonneg (by omega) (by omega), ?_⟩
    have := Int.mul_le_mul h1.2 h2.2 (by omega) (by omega)
    omega
  obtain ⟨P, hP⟩ : ∃ P, P = a * b := ⟨_, rfl⟩
  rw [← hP] at hE hab
  have H := Lib.hid (And.intro k1 (And.intro k2 (And.intro k3 hE)))
  clear hr1 hr2 hr3 k1 k2 k3
  cases r1
  · clear hP hab hE
    go_enter Tryz.func128, Tryz.ntmps128
    go_wp2_with (go_at_call 154; refine (H.out.1 _).mono ?_; rintro e w' ⟨rfl, rfl⟩)
    go_ret
    exact ⟨by rw [H.out.2.2.2]; rfl, rfl⟩
  · cases r2
    · clear hP hab hE
      go_enter Tryz.func128, Tryz.ntmps128
      go_wp2_with (first | (go_at_call 154; with_reducible refine (H.out.1 _).mono ?_; rintro e w' ⟨rfl, rfl⟩) | (go_at_call 154; with_reducible refine (H.out.2.1 _).mono ?_; rintro e w' ⟨rfl, rfl⟩))
      go_ret
      exact ⟨by rw [H.out.2.2.2]; rfl, rfl⟩
    · obtain ⟨p1, p2⟩ := hab rfl rfl
      have w1 : IntKind.i64.wrap (a * b) = P := by rw [← hP]; exact IntWalk.i64_in _ (by omega)
      clear hab hP hE
      by_cases h : 1024 < P
      · have hd : decide (P ≤ 1024) = false := by simp; omega
        have HD := Lib.hid hd
        clear hd
        go_enter Tryz.func128, Tryz.ntmps128
        go_wp2_with (first | (go_at_call 154; with_reducible refine (H.out.1 _).mono ?_; rintro e w' ⟨rfl, rfl⟩) | (go_at_call 154; with_reducible refine (H.out.2.1 _).mono ?_; rintro e w' ⟨rfl, rfl⟩))
        go_ret
        exact ⟨by rw [H.out.2.2.2, HD.out]; rfl, rfl⟩
      · have hd : decide (P ≤ 1024) = true := by simp; omega
        have HD := Lib.hid hd
        clear hd
        cases r3
        · go_enter Tryz.func128, Tryz.ntmps128
          go_wp2_with (first | (go_at_call 154; with_reducible refine (H.out.1 _).mono ?_; rintro e w' ⟨rfl, rfl⟩) | (go_at_call 154; with_reducible refine (H.out.2.1 _).mono ?_; rintro e w' ⟨rfl, rfl⟩) | (go_at_call 154; with_reducible refine (H.out.2.2.1 _).mono ?_; rintro e w' ⟨rfl, rfl⟩))
          go_ret
          exact ⟨by rw [H.out.2.2.2, HD.out]; rfl, rfl⟩
        · go_enter Tryz.func128, Tryz.ntmps128
          go_wp2_with (first | (go_at_call 154; with_reducible refine (H.out.1 _).mono ?_; rintro e w' ⟨rfl, rfl⟩) | (go_at_call 154; with_reducible refine (H.out.2.1 _).mono ?_; rintro e w' ⟨rfl, rfl⟩) | (go_at_call 154; with_reducible refine (H.out.2.2.1 _).mono ?_; rintro e w' ⟨rfl, rfl⟩))
          go_ret
          exact ⟨by rw [H.out.2.2.2, HD.out]; rfl, rfl⟩

set_option maxRecDepth 100000 in
set_option maxHeartbeats 1000000 in
theorem wrong_any (A : Option Addr) (c : Nat) (l : List Cel) (w : World) (hr : Rd w 8 A l.length (cels l)) (hm : l.length ≤ 9223372036854775807) :
    Calls Tryz.prog 129 #[.slice A l.length c, .func (.func 130) #[] #[]] w fun e w' => e = .returned (.int .i64 (celsE l)) ∧ Below w.heap.size w w' := by
  have HR := Lib.hid hr
  clear hr
  go_enter Tryz.func129, Tryz.ntmps129
  go_wp2_with fail
  go_loopw [10] (fun i wr => ∃ k : Nat, k ≤ l.length ∧ i = .int .i64 k ∧ (∀ x ∈ l.take k, celOk x = true) ∧ Below w.heap.size w wr) (fun i _ => l.length - (intOf i).toNat)
  case atStart => exact ⟨0, Nat.zero_le _, rfl, by simp, Below.refl _ _⟩
  case round =>
    obtain ⟨k, hk, rfl, hall, hb⟩ := hrel
    have HB := Lib.hid (And.intro hall hb)
    by_cases hlt : k < l.length
    · obtain ⟨b, off, rfl, zb, hc⟩ := (HR.out.below hb).2 (by omega)
      obtain ⟨x, hx⟩ : ∃ x, x = l[k] := ⟨_, rfl⟩
      obtain ⟨s0, s1, s2, s3, s4, s5, s6, s7⟩ := cels_get hlt
      rw [← hx] at s0 s1 s2 s3 s4 s5 s6 s7
      have c0 := hc _ _ s0
      have c1 : wr.cell? ⟨b, off + k*8 + 1, none⟩ = _ := hc _ _ s1
      have c2 : wr.cell? ⟨b, off + k*8 + 2, none⟩ = _ := hc _ _ s2
      have c3 : wr.cell? ⟨b, off + k*8 + 3, none⟩ = _ := hc _ _ s3
      have c4 : wr.cell? ⟨b, off + k*8 + 4, none⟩ = _ := hc _ _ s4
      have c5 : wr.cell? ⟨b, off + k*8 + 5, none⟩ = _ := hc _ _ s5
      have c6 : wr.cell? ⟨b, off + k*8 + 6, none⟩ = _ := hc _ _ s6
      have c7 : wr.cell? ⟨b, off + k*8 + 7, none⟩ = _ := hc _ _ s7
      have n2 : (k : Int) < (l.length : Int) := by omega
      obtain ⟨er, her⟩ : ∃ er, er = celE x := ⟨_, rfl⟩
      have kc := fun wx => checkCell_any x wx
      rw [← her] at kc
      have bal : Below wr.heap.size wr (wr.alloc (.cells (celA x) 73)) := (Below.refl _ _).alloc (Nat.le_refl _) _
      have HX := Lib.hid (And.intro kc (And.intro her (And.intro hx (hb.trans (bal.mono hb.size)))))
      clear s0 s1 s2 s3 s4 s5 s6 s7 hc kc her hx hall hb bal
      by_cases h0 : er = 0
      · subst h0
        have hok : celOk x = true := by
          have := HX.out.2.1
          unfold celE at this
          split at this
          · assumption
          · cases this
        have HO := Lib.hid hok
        clear hok
        go_wp2_with (go_at_call 130; refine (HX.out.1 _).mono ?_; rintro e w2 ⟨rfl, b2⟩)
        go_roundw
        case measure => simp [intOf]; omega
        case rel =>
          refine ⟨k + 1, by omega, by go_num, fun y hy => ?_, HX.out.2.2.2.trans (b2.mono HX.out.2.2.2.size)⟩
          rw [List.take_succ_eq_append_getElem hlt] at hy
          rcases List.mem_append.1 hy with h | h
          · exact HB.out.1 y h
          · rw [List.mem_singleton.1 h, ← HX.out.2.2.1]; exact HO.out
      · have hne : (er != 0) = true := by simp [h0]
        have HK := Lib.hid h0
        clear h0
        go_wp2_with (go_at_call 130; refine (HX.out.1 _).mono ?_; rintro e w2 ⟨rfl, b2⟩)
        go_ret
        refine ⟨?_, HX.out.2.2.2.trans (b2.mono HX.out.2.2.2.size)⟩
        have hno : ¬ celOk x = true := fun h => HK.out (by rw [HX.out.2.1]; unfold celE; rw [if_pos h])
        have e1 : er = 20 := by rw [HX.out.2.1]; unfold celE; rw [if_neg hno]
        have e2 : celsE l = 20 := by
          unfold celsE
          rw [if_neg]
          intro h
          exact hno (by rw [HX.out.2.2.1]; exact List.all_eq_true.1 h _ (List.getElem_mem hlt))
        rw [e1, e2]; rfl
    · obtain rfl : k = l.length := by omega
      go_wp2_with fail
      go_ret
      refine ⟨?_, HB.out.2⟩
      have e2 : celsE l = 0 := by
        unfold celsE
        rw [if_pos (List.all_eq_true.2 (by have := HB.out.1; rwa [List.take_length] at this))]
      rw [e2]; rfl

theorem size_zero {a b c : Int} (h : sizeE a b c = 0) : (1 ≤ a ∧ a ≤ 64) ∧ (1 ≤ b ∧ b ≤ 64) ∧ 0 ≤ a * b ∧ a * b ≤ 1024 := by
  unfold sizeE at h
  split at h
  · rename_i h1
    simp [sizeOk, within] at h1
    exact ⟨by omega, by omega, Int.mul_nonneg (by omega) (by omega), h1.1.2⟩
  · cases h
set_option maxRecDepth 100000 in
set_option maxHeartbeats 1000000 in
theorem checkChart_any (a b c : Int) (A : Option Addr) (ca : Nat) (l : List Cel) (w : World) (hr : Rd w 8 A l.length (cels l)) (hm : l.length ≤ 9223372036854775807) :
    Calls Tryz.prog 87 #[.agg #[.int .i64 a, .int .i64 b, .int .i64 c, .slice A l.length ca]] w fun e w' => e = .returned (.int .i64 (chartE a b c l)) ∧ Below w.heap.size w w' := by
  obtain ⟨W, hW⟩ : ∃ W, W = w.alloc (.cells #[.int .i64 a, .int .i64 b, .int .i64 c, .slice A l.length ca] 57) := ⟨_, rfl⟩
  obtain ⟨ib, hib⟩ : ∃ b, b = w.heap.size := ⟨_, rfl⟩
  have hh : W.heap[ib]? = some (.cells #[.int .i64 a, .int .i64 b, .int .i64 c, .slice A l.length ca] 57 (0, 0)) := by rw [hW, hib]; exact heap_alloc_new _ _
  have bW : Below w.heap.size w W := by rw [hW]; exact (Below.refl _ _).alloc (Nat.le_refl _) _
  obtain ⟨er, her⟩ : ∃ er, er = sizeE a b c := ⟨_, rfl⟩
  have ks := size_any a b c W
  rw [← her] at ks
  have kw := wrong_any A ca l W (hr.below bW) hm
  obtain ⟨ew, hew⟩ : ∃ ew, ew = celsE l := ⟨_, rfl⟩
  rw [← hew] at kw
  have c0 := (cell_of_heap hh 0).trans rfl
  have c1 := (cell_of_heap hh 1).trans rfl
  have c2 := (cell_of_heap hh 2).trans rfl
  have c3 := (cell_of_heap hh 3).trans rfl
  have zb := heap_lt hh
  have HR := Lib.hid (And.intro ks (And.intro kw (And.intro bW (And.intro her hew))))
  clear hh bW ks kw her hew hr
  have hC : chartE a b c l = if er ≠ 0 then er else if (l.length : Int) ≠ a * b then 1 else ew := by rw [HR.out.2.2.2.1, HR.out.2.2.2.2]; rfl
  by_cases h0 : er = 0
  · subst h0
    obtain ⟨_, _, p1, p2⟩ := size_zero HR.out.2.2.2.1.symm
    obtain ⟨P, hP⟩ : ∃ P, P = a * b := ⟨_, rfl⟩
    rw [← hP] at hC p1 p2
    have w1 : IntKind.i64.wrap (a * b) = P := by rw [← hP]; exact IntWalk.i64_in _ (by omega)
    have HC := Lib.hid hC
    clear hC hP
    by_cases hl : (l.length : Int) = P
    · have hl' : ((l.length : Int) != P) = false := by simp [hl]
      have HL := Lib.hid hl
      clear hl
      go_enter Tryz.func87, Tryz.ntmps87
      go_upto_region 1 with fail
      rw [← hW, ← hib]
      clear hW hib
      go_wp2_with (first | (go_at_call 128; refine HR.out.1.mono ?_; rintro e w' ⟨rfl, rfl⟩) | (go_at_call 129; refine HR.out.2.1.mono ?_; rintro e w2 ⟨rfl, b2⟩))
      go_ret
      exact ⟨by rw [HC.out, if_neg (by omega), if_neg (fun h => h HL.out)]; rfl, HR.out.2.2.1.trans (b2.mono HR.out.2.2.1.size)⟩
    · have hl' : ((l.length : Int) != P) = true := by simp [hl]
      have HL := Lib.hid hl
      clear hl
      go_enter Tryz.func87, Tryz.ntmps87
      go_upto_region 1 with fail
      rw [← hW, ← hib]
      clear hW hib
      go_wp2_with (go_at_call 128; refine HR.out.1.mono ?_; rintro e w' ⟨rfl, rfl⟩)
      go_ret
      exact ⟨by rw [HC.out, if_neg (by omega), if_pos HL.out]; rfl, HR.out.2.2.1⟩
  · have hne : (er != 0) = true := by simp [h0]
    have HK := Lib.hid (And.intro h0 hC)
    clear h0 hC
    go_enter Tryz.func87, Tryz.ntmps87
    go_upto_region 1 with fail
    rw [← hW, ← hib]
    clear hW hib
    go_wp2_with (go_at_call 128; refine HR.out.1.mono ?_; rintro e w' ⟨rfl, rfl⟩)
    go_ret
    exact ⟨by rw [HK.out.2, if_pos HK.out.1]; rfl, HR.out.2.2.1⟩
end Go.Proofs.YtaokegobilphnaaGreatDoor
