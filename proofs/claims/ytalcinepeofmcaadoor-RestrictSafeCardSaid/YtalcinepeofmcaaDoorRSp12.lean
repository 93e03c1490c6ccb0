/- ice: spans within their limits (printed by wip/tools/ice.py) -/
import Derived.Test.YtalcinepeofmcaaDoorRSp11
import Derived.Test.YtalcinepeofmcaaDoorRSp9
import Derived.Deep.DeepCutAuto
import Derived.Test.YtalcinepeofmcaaDoorRSp0
import Derived.Test.YtalcinepeofmcaaDoorRSp10
set_option linter.unusedVariables false
set_option linter.unusedSimpArgs false
namespace Go.Proofs.YtalcinepeofmcaaDoor
open Go Go.RowKit Sp
set_option linter.unusedVariables false

def RiV (s : Int × Int) (ib : Nat) (k m : Int) : Nat → Value → Prop
  | 0, u => u = .pointer (some ⟨ib, 0, none⟩)
  | 1, u => u = .int .i64 s.1
  | 2, u => u = .agg #[.int .i64 100, .int .i64 400, .int .i64 100, .int .i64 3]
  | 3, u => u = .int .i64 k
  | 4, u => u = .int .i64 m
  | 5, u => u = .bool false
  | 6, u => u = .bool false
  | 15, u => u = .bool false
  | 16, u => u = .bool false
  | _, _ => True
def spanOk (s : Int × Int) (m : Int) : Bool := within s.1 0 m && within s.2 s.1 m

set_option maxRecDepth 100000 in
set_option maxHeartbeats 2000000 in
theorem right0_any (s : Int × Int) (w : World) :
    Calls Tryd.prog 71 #[.agg #[.int .i64 s.1, .int .i64 s.2], .int .i64 0] w fun e w' => e = .returned (.bool (spanOk s 100)) ∧ Below w.heap.size w w' := by
  obtain ⟨W, hW⟩ : ∃ W, W = w.alloc (.cells #[.int .i64 s.1, .int .i64 s.2] 28) := ⟨_, rfl⟩
  obtain ⟨ib, hib⟩ : ∃ b, b = w.heap.size := ⟨_, rfl⟩
  have hh : W.heap[ib]? = some (.cells #[.int .i64 s.1, .int .i64 s.2] 28 (0, 0)) := by rw [hW, hib]; exact heap_alloc_new _ _
  have bW : Below w.heap.size w W := by rw [hW]; exact (Below.refl _ _).alloc (Nat.le_refl _) _
  have c0 := (cell_of_heap hh 0).trans rfl
  have c1 := (cell_of_heap hh 1).trans rfl
  have zb := heap_lt hh
  have KC : ∀ {b o : Nat} {u : Value}, W.cell? ⟨b, o, none⟩ = some u → ∀ w', Below W.heap.size W w' → w'.cell? ⟨b, o, none⟩ = some u := fun h w' hb => (hb.cell (World.block_lt_of_cell? W _ h)).trans h
  have c0' := KC c0
  have c1' := KC c1
  clear KC hh
  obtain ⟨r1, hr1⟩ : ∃ r, r = within s.1 0 100 := ⟨_, rfl⟩
  obtain ⟨r2, hr2⟩ : ∃ r, r = within s.2 s.1 100 := ⟨_, rfl⟩
  have hs : spanOk s 100 = (r1 && r2) := by rw [hr1, hr2]; rfl
  rw [hs]
  have k1 : ∀ wx, Calls Tryd.prog 46 #[.int .i64 s.1, .int .i64 0, .int .i64 100] wx fun e w' => e = .returned (.bool r1) ∧ wx = w' := fun wx => by rw [hr1]; exact icein_any _ _ _ wx
  have k2 : ∀ wx, Calls Tryd.prog 46 #[.int .i64 s.2, .int .i64 s.1, .int .i64 100] wx fun e w' => e = .returned (.bool r2) ∧ wx = w' := fun wx => by rw [hr2]; exact icein_any _ _ _ wx
  have H := Lib.hid (And.intro k1 (And.intro k2 bW))
  clear hr1 hr2 hs k1 k2 bW
  have hx := fun w => (most_index w).1.1
  cases r1
  · go_enter Tryd.func71, Tryd.ntmps71
    go_upto_region 1 with fail
    rw [← hW, ← hib]
    clear hW hib
    refine wp_region_stepsG (σ := Unit) (by kernel_rfl) (by kernel_rfl) (fun _ jx vx _ => RiV s ib 0 100 jx vx) (fun _ ly wx => Below W.heap.size W wx) () ?_ ?_ ?_
    · exact (Below.refl _ _).drew
    · simp only [AllFrom, Nat.zero_add, Nat.reduceAdd]
      refine ⟨?_, ?_, ?_, ?_, ?_, ?_, ?_, ?_, ?_, ?_, ?_, ?_, ?_, ?_, ?_, ?_, ?_, trivial⟩
      · refine stepG_plain rfl (step_pure fun sg ly a wr hl hd hW hF => ?_)
        have et2 := hF.old 2 (by kernel_rfl)
        simp [Act.eval] at et2
        exact ⟨hW, _, by go_simp, rfl⟩
      · refine stepG_plain rfl (step_pure fun sg ly a wr hl hd hW hF => ?_)
        simp [Region.binds] at hd
        have et5 := hF.new 0 5 (by simp [hd]) rfl
        simp [RiV, Act.eval] at et5
        have k0 := c0' _ hW
        exact ⟨hW, _, by go_simp, rfl⟩
      · refine stepG_plain rfl (step_call fun sg ly a wr hl hd hW hF => ?_)
        refine ⟨77, #[], by go_simp, ?_⟩
        refine (most_any wr).mono ?_
        rintro e w2 ⟨rfl, b2⟩
        exact ⟨_, (), rfl, hW.trans (b2.mono hW.size), rfl, fun _ _ _ h => h⟩
      · refine stepG_plain rfl (step_pure fun sg ly a wr hl hd hW hF => ?_)
        have et1 := hF.old 1 (by kernel_rfl)
        simp [Act.eval] at et1
        exact ⟨hW, _, by go_simp, rfl⟩
      · refine stepG_plain rfl (step_pure fun sg ly a wr hl hd hW hF => ?_)
        simp [Region.binds] at hd
        have et7 := hF.new 2 7 (by simp [hd]) rfl
        simp [RiV, Act.eval] at et7
        have et8 := hF.new 3 8 (by simp [hd]) rfl
        simp [RiV, Act.eval] at et8
        exact ⟨hW, _, by go_simp, rfl⟩
      · refine stepG_plain rfl (step_call fun sg ly a wr hl hd hW hF => ?_)
        simp [Region.binds] at hd
        have et6 := hF.new 1 6 (by simp [hd]) rfl
        simp [RiV, Act.eval] at et6
        have et9 := hF.new 4 9 (by simp [hd]) rfl
        simp [RiV, Act.eval] at et9
        refine ⟨46, #[.int .i64 s.1, .int .i64 0, .int .i64 100], by go_simp, ?_⟩
        refine (H.out.1 wr).mono ?_
        rintro e w2 ⟨rfl, rfl⟩
        exact ⟨_, (), rfl, hW, rfl, fun _ _ _ h => h⟩
      · refine stepG_plain rfl (step_pure fun sg ly a wr hl hd hW hF => ?_)
        simp [Region.binds] at hd
        have et10 := hF.new 5 10 (by simp [hd]) rfl
        simp [RiV, Act.eval] at et10
        exact ⟨hW, _, by go_simp, rfl⟩
      · refine stepG_guard (fun sg ly a wr hl hd hW hF hw => ?_) (fun sg ly a wr hl hd hW hF hw => ⟨hW, trivial⟩)
        simp [Region.binds] at hd
        obtain ⟨u, hu, hp⟩ := hF.vals 6 _ 11 (by simp [hd]) rfl rfl
        simp [RiV] at hp
        subst hp
        simp [Region.wanted, yielded, hu] at hw
      · refine stepG_guard (fun sg ly a wr hl hd hW hF hw => ?_) (fun sg ly a wr hl hd hW hF hw => ⟨hW, trivial⟩)
        simp [Region.binds] at hd
        obtain ⟨u, hu, hp⟩ := hF.vals 6 _ 11 (by simp [hd]) rfl rfl
        simp [RiV] at hp
        subst hp
        simp [Region.wanted, yielded, hu] at hw
      · refine stepG_guard (fun sg ly a wr hl hd hW hF hw => ?_) (fun sg ly a wr hl hd hW hF hw => ⟨hW, trivial⟩)
        simp [Region.binds] at hd
        obtain ⟨u, hu, hp⟩ := hF.vals 6 _ 11 (by simp [hd]) rfl rfl
        simp [RiV] at hp
        subst hp
        simp [Region.wanted, yielded, hu] at hw
      · refine stepG_guard (fun sg ly a wr hl hd hW hF hw => ?_) (fun sg ly a wr hl hd hW hF hw => ⟨hW, trivial⟩)
        simp [Region.binds] at hd
        obtain ⟨u, hu, hp⟩ := hF.vals 6 _ 11 (by simp [hd]) rfl rfl
        simp [RiV] at hp
        subst hp
        simp [Region.wanted, yielded, hu] at hw
      · refine stepG_guard (fun sg ly a wr hl hd hW hF hw => ?_) (fun sg ly a wr hl hd hW hF hw => ⟨hW, trivial⟩)
        simp [Region.binds] at hd
        obtain ⟨u, hu, hp⟩ := hF.vals 6 _ 11 (by simp [hd]) rfl rfl
        simp [RiV] at hp
        subst hp
        simp [Region.wanted, yielded, hu] at hw
      · refine stepG_guard (fun sg ly a wr hl hd hW hF hw => ?_) (fun sg ly a wr hl hd hW hF hw => ⟨hW, trivial⟩)
        simp [Region.binds] at hd
        obtain ⟨u, hu, hp⟩ := hF.vals 6 _ 11 (by simp [hd]) rfl rfl
        simp [RiV] at hp
        subst hp
        simp [Region.wanted, yielded, hu] at hw
      · refine stepG_guard (fun sg ly a wr hl hd hW hF hw => ?_) (fun sg ly a wr hl hd hW hF hw => ⟨hW, trivial⟩)
        simp [Region.binds] at hd
        obtain ⟨u, hu, hp⟩ := hF.vals 6 _ 11 (by simp [hd]) rfl rfl
        simp [RiV] at hp
        subst hp
        simp [Region.wanted, yielded, hu] at hw
      · refine stepG_guard (fun sg ly a wr hl hd hW hF hw => ?_) (fun sg ly a wr hl hd hW hF hw => ⟨hW, trivial⟩)
        simp [Region.binds] at hd
        obtain ⟨u, hu, hp⟩ := hF.vals 6 _ 11 (by simp [hd]) rfl rfl
        simp [RiV] at hp
        subst hp
        simp [Region.wanted, yielded, hu] at hw
      · refine stepG_plain rfl (step_pure fun sg ly a wr hl hd hW hF => ?_)
        simp [Region.binds] at hd
        have et11 := hF.new 6 11 (by simp [hd]) rfl
        simp [RiV, Act.eval] at et11
        exact ⟨hW, _, by go_simp, rfl⟩
      · refine stepG_plain rfl (step_pure fun sg ly a wr hl hd hW hF => ?_)
        simp [Region.binds] at hd
        have et20 := hF.new 15 20 (by simp [hd]) rfl
        simp [RiV, Act.eval] at et20
        exact ⟨hW, _, by go_simp, rfl⟩
    intro sg a w5 hW hF
    have e4 := hF.new 16 4 (by decide) rfl
    obtain ⟨f, hf, rfl⟩ := hF.lit
    rw [← hf] at e4
    simp only [RiV] at e4
    have HB := Lib.hid hW
    clear hf hF hW
    simp only [List.filterMap, List.foldl, List.setIfInBounds_toArray, List.set_cons_succ, List.set_cons_zero, e4]
    clear e4
    go_wp2_with fail
    go_ret
    exact ⟨rfl, H.out.2.2.trans (HB.out.mono H.out.2.2.size)⟩
  · go_enter Tryd.func71, Tryd.ntmps71
    go_upto_region 1 with fail
    rw [← hW, ← hib]
    clear hW hib
    go_region_held3 (fun w' => Below W.heap.size W w') (first | exact (Below.refl _ _).drew | assumption)
      (first
        | (go_at_call 77
           have bb := B2
           clear bb
           refine (most_any _).mono ?_
           rintro e w4 ⟨rfl, b4⟩
           have B4 : Below W.heap.size W w4 := B2.trans (b4.mono B2.size)
           clear b4)
        | (go_at_call 77
           refine (most_any _).mono ?_
           rintro e w2 ⟨rfl, b2⟩
           have B2 : Below W.heap.size W w2 := (Below.refl _ _).drew.trans b2
           clear b2)
        | (go_at_call 46
           have bb := B4
           clear bb
           refine (H.out.2.1 _).mono ?_
           rintro e w5 ⟨rfl, rfl⟩)
        | (go_at_call 46
           refine (H.out.1 _).mono ?_
           rintro e w3 ⟨rfl, rfl⟩)
        | fail)
    have HB := Lib.hid B4
    clear B2 B4
    go_wp2_with fail
    go_ret
    exact ⟨by simp, H.out.2.2.trans (HB.out.mono H.out.2.2.size)⟩

set_option maxRecDepth 100000 in
set_option maxHeartbeats 2000000 in
theorem right1_any (s : Int × Int) (w : World) :
    Calls Tryd.prog 71 #[.agg #[.int .i64 s.1, .int .i64 s.2], .int .i64 1] w fun e w' => e = .returned (.bool (spanOk s 400)) ∧ Below w.heap.size w w' := by
  obtain ⟨W, hW⟩ : ∃ W, W = w.alloc (.cells #[.int .i64 s.1, .int .i64 s.2] 28) := ⟨_, rfl⟩
  obtain ⟨ib, hib⟩ : ∃ b, b = w.heap.size := ⟨_, rfl⟩
  have hh : W.heap[ib]? = some (.cells #[.int .i64 s.1, .int .i64 s.2] 28 (0, 0)) := by rw [hW, hib]; exact heap_alloc_new _ _
  have bW : Below w.heap.size w W := by rw [hW]; exact (Below.refl _ _).alloc (Nat.le_refl _) _
  have c0 := (cell_of_heap hh 0).trans rfl
  have c1 := (cell_of_heap hh 1).trans rfl
  have zb := heap_lt hh
  have KC : ∀ {b o : Nat} {u : Value}, W.cell? ⟨b, o, none⟩ = some u → ∀ w', Below W.heap.size W w' → w'.cell? ⟨b, o, none⟩ = some u := fun h w' hb => (hb.cell (World.block_lt_of_cell? W _ h)).trans h
  have c0' := KC c0
  have c1' := KC c1
  clear KC hh
  obtain ⟨r1, hr1⟩ : ∃ r, r = within s.1 0 400 := ⟨_, rfl⟩
  obtain ⟨r2, hr2⟩ : ∃ r, r = within s.2 s.1 400 := ⟨_, rfl⟩
  have hs : spanOk s 400 = (r1 && r2) := by rw [hr1, hr2]; rfl
  rw [hs]
  have k1 : ∀ wx, Calls Tryd.prog 46 #[.int .i64 s.1, .int .i64 0, .int .i64 400] wx fun e w' => e = .returned (.bool r1) ∧ wx = w' := fun wx => by rw [hr1]; exact icein_any _ _ _ wx
  have k2 : ∀ wx, Calls Tryd.prog 46 #[.int .i64 s.2, .int .i64 s.1, .int .i64 400] wx fun e w' => e = .returned (.bool r2) ∧ wx = w' := fun wx => by rw [hr2]; exact icein_any _ _ _ wx
  have H := Lib.hid (And.intro k1 (And.intro k2 bW))
  clear hr1 hr2 hs k1 k2 bW
  have hx := fun w => (most_index w).1.2
  cases r1
  · go_enter Tryd.func71, Tryd.ntmps71
    go_upto_region 1 with fail
    rw [← hW, ← hib]
    clear hW hib
    refine wp_region_stepsG (σ := Unit) (by kernel_rfl) (by kernel_rfl) (fun _ jx vx _ => RiV s ib 1 400 jx vx) (fun _ ly wx => Below W.heap.size W wx) () ?_ ?_ ?_
    · exact (Below.refl _ _).drew
    · simp only [AllFrom, Nat.zero_add, Nat.reduceAdd]
      refine ⟨?_, ?_, ?_, ?_, ?_, ?_, ?_, ?_, ?_, ?_, ?_, ?_, ?_, ?_, ?_, ?_, ?_, trivial⟩
      · refine stepG_plain rfl (step_pure fun sg ly a wr hl hd hW hF => ?_)
        have et2 := hF.old 2 (by kernel_rfl)
        simp [Act.eval] at et2
        exact ⟨hW, _, by go_simp, rfl⟩
      · refine stepG_plain rfl (step_pure fun sg ly a wr hl hd hW hF => ?_)
        simp [Region.binds] at hd
        have et5 := hF.new 0 5 (by simp [hd]) rfl
        simp [RiV, Act.eval] at et5
        have k0 := c0' _ hW
        exact ⟨hW, _, by go_simp, rfl⟩
      · refine stepG_plain rfl (step_call fun sg ly a wr hl hd hW hF => ?_)
        refine ⟨77, #[], by go_simp, ?_⟩
        refine (most_any wr).mono ?_
        rintro e w2 ⟨rfl, b2⟩
        exact ⟨_, (), rfl, hW.trans (b2.mono hW.size), rfl, fun _ _ _ h => h⟩
      · refine stepG_plain rfl (step_pure fun sg ly a wr hl hd hW hF => ?_)
        have et1 := hF.old 1 (by kernel_rfl)
        simp [Act.eval] at et1
        exact ⟨hW, _, by go_simp, rfl⟩
      · refine stepG_plain rfl (step_pure fun sg ly a wr hl hd hW hF => ?_)
        simp [Region.binds] at hd
        have et7 := hF.new 2 7 (by simp [hd]) rfl
        simp [RiV, Act.eval] at et7
        have et8 := hF.new 3 8 (by simp [hd]) rfl
        simp [RiV, Act.eval] at et8
        exact ⟨hW, _, by go_simp, rfl⟩
      · refine stepG_plain rfl (step_call fun sg ly a wr hl hd hW hF => ?_)
        simp [Region.binds] at hd
        have et6 := hF.new 1 6 (by simp [hd]) rfl
        simp [RiV, Act.eval] at et6
        have et9 := hF.new 4 9 (by simp [hd]) rfl
        simp [RiV, Act.eval] at et9
        refine ⟨46, #[.int .i64 s.1, .int .i64 0, .int .i64 400], by go_simp, ?_⟩
        refine (H.out.1 wr).mono ?_
        rintro e w2 ⟨rfl, rfl⟩
        exact ⟨_, (), rfl, hW, rfl, fun _ _ _ h => h⟩
      · refine stepG_plain rfl (step_pure fun sg ly a wr hl hd hW hF => ?_)
        simp [Region.binds] at hd
        have et10 := hF.new 5 10 (by simp [hd]) rfl
        simp [RiV, Act.eval] at et10
        exact ⟨hW, _, by go_simp, rfl⟩
      · refine stepG_guard (fun sg ly a wr hl hd hW hF hw => ?_) (fun sg ly a wr hl hd hW hF hw => ⟨hW, trivial⟩)
        simp [Region.binds] at hd
        obtain ⟨u, hu, hp⟩ := hF.vals 6 _ 11 (by simp [hd]) rfl rfl
        simp [RiV] at hp
        subst hp
        simp [Region.wanted, yielded, hu] at hw
      · refine stepG_guard (fun sg ly a wr hl hd hW hF hw => ?_) (fun sg ly a wr hl hd hW hF hw => ⟨hW, trivial⟩)
        simp [Region.binds] at hd
        obtain ⟨u, hu, hp⟩ := hF.vals 6 _ 11 (by simp [hd]) rfl rfl
        simp [RiV] at hp
        subst hp
        simp [Region.wanted, yielded, hu] at hw
      · refine stepG_guard (fun sg ly a wr hl hd hW hF hw => ?_) (fun sg ly a wr hl hd hW hF hw => ⟨hW, trivial⟩)
        simp [Region.binds] at hd
        obtain ⟨u, hu, hp⟩ := hF.vals 6 _ 11 (by simp [hd]) rfl rfl
        simp [RiV] at hp
        subst hp
        simp [Region.wanted, yielded, hu] at hw
      · refine stepG_guard (fun sg ly a wr hl hd hW hF hw => ?_) (fun sg ly a wr hl hd hW hF hw => ⟨hW, trivial⟩)
        simp [Region.binds] at hd
        obtain ⟨u, hu, hp⟩ := hF.vals 6 _ 11 (by simp [hd]) rfl rfl
        simp [RiV] at hp
        subst hp
        simp [Region.wanted, yielded, hu] at hw
      · refine stepG_guard (fun sg ly a wr hl hd hW hF hw => ?_) (fun sg ly a wr hl hd hW hF hw => ⟨hW, trivial⟩)
        simp [Region.binds] at hd
        obtain ⟨u, hu, hp⟩ := hF.vals 6 _ 11 (by simp [hd]) rfl rfl
        simp [RiV] at hp
        subst hp
        simp [Region.wanted, yielded, hu] at hw
      · refine stepG_guard (fun sg ly a wr hl hd hW hF hw => ?_) (fun sg ly a wr hl hd hW hF hw => ⟨hW, trivial⟩)
        simp [Region.binds] at hd
        obtain ⟨u, hu, hp⟩ := hF.vals 6 _ 11 (by simp [hd]) rfl rfl
        simp [RiV] at hp
        subst hp
        simp [Region.wanted, yielded, hu] at hw
      · refine stepG_guard (fun sg ly a wr hl hd hW hF hw => ?_) (fun sg ly a wr hl hd hW hF hw => ⟨hW, trivial⟩)
        simp [Region.binds] at hd
        obtain ⟨u, hu, hp⟩ := hF.vals 6 _ 11 (by simp [hd]) rfl rfl
        simp [RiV] at hp
        subst hp
        simp [Region.wanted, yielded, hu] at hw
      · refine stepG_guard (fun sg ly a wr hl hd hW hF hw => ?_) (fun sg ly a wr hl hd hW hF hw => ⟨hW, trivial⟩)
        simp [Region.binds] at hd
        obtain ⟨u, hu, hp⟩ := hF.vals 6 _ 11 (by simp [hd]) rfl rfl
        simp [RiV] at hp
        subst hp
        simp [Region.wanted, yielded, hu] at hw
      · refine stepG_plain rfl (step_pure fun sg ly a wr hl hd hW hF => ?_)
        simp [Region.binds] at hd
        have et11 := hF.new 6 11 (by simp [hd]) rfl
        simp [RiV, Act.eval] at et11
        exact ⟨hW, _, by go_simp, rfl⟩
      · refine stepG_plain rfl (step_pure fun sg ly a wr hl hd hW hF => ?_)
        simp [Region.binds] at hd
        have et20 := hF.new 15 20 (by simp [hd]) rfl
        simp [RiV, Act.eval] at et20
        exact ⟨hW, _, by go_simp, rfl⟩
    intro sg a w5 hW hF
    have e4 := hF.new 16 4 (by decide) rfl
    obtain ⟨f, hf, rfl⟩ := hF.lit
    rw [← hf] at e4
    simp only [RiV] at e4
    have HB := Lib.hid hW
    clear hf hF hW
    simp only [List.filterMap, List.foldl, List.setIfInBounds_toArray, List.set_cons_succ, List.set_cons_zero, e4]
    clear e4
    go_wp2_with fail
    go_ret
    exact ⟨rfl, H.out.2.2.trans (HB.out.mono H.out.2.2.size)⟩
  · go_enter Tryd.func71, Tryd.ntmps71
    go_upto_region 1 with fail
    rw [← hW, ← hib]
    clear hW hib
    go_region_held3 (fun w' => Below W.heap.size W w') (first | exact (Below.refl _ _).drew | assumption)
      (first
        | (go_at_call 77
           have bb := B2
           clear bb
           refine (most_any _).mono ?_
           rintro e w4 ⟨rfl, b4⟩
           have B4 : Below W.heap.size W w4 := B2.trans (b4.mono B2.size)
           clear b4)
        | (go_at_call 77
           refine (most_any _).mono ?_
           rintro e w2 ⟨rfl, b2⟩
           have B2 : Below W.heap.size W w2 := (Below.refl _ _).drew.trans b2
           clear b2)
        | (go_at_call 46
           have bb := B4
           clear bb
           refine (H.out.2.1 _).mono ?_
           rintro e w5 ⟨rfl, rfl⟩)
        | (go_at_call 46
           refine (H.out.1 _).mono ?_
           rintro e w3 ⟨rfl, rfl⟩)
        | fail)
    have HB := Lib.hid B4
    clear B2 B4
    go_wp2_with fail
    go_ret
    exact ⟨by simp, H.out.2.2.trans (HB.out.mono H.out.2.2.size)⟩

set_option maxRecDepth 100000 in
set_option maxHeartbeats 2000000 in
theorem right2_any (s : Int × Int) (w : World) :
    Calls Tryd.prog 71 #[.agg #[.int .i64 s.1, .int .i64 s.2], .int .i64 2] w fun e w' => e = .returned (.bool (spanOk s 100)) ∧ Below w.heap.size w w' := by
  obtain ⟨W, hW⟩ : ∃ W, W = w.alloc (.cells #[.int .i64 s.1, .int .i64 s.2] 28) := ⟨_, rfl⟩
  obtain ⟨ib, hib⟩ : ∃ b, b = w.heap.size := ⟨_, rfl⟩
  have hh : W.heap[ib]? = some (.cells #[.int .i64 s.1, .int .i64 s.2] 28 (0, 0)) := by rw [hW, hib]; exact heap_alloc_new _ _
  have bW : Below w.heap.size w W := by rw [hW]; exact (Below.refl _ _).alloc (Nat.le_refl _) _
  have c0 := (cell_of_heap hh 0).trans rfl
  have c1 := (cell_of_heap hh 1).trans rfl
  have zb := heap_lt hh
  have KC : ∀ {b o : Nat} {u : Value}, W.cell? ⟨b, o, none⟩ = some u → ∀ w', Below W.heap.size W w' → w'.cell? ⟨b, o, none⟩ = some u := fun h w' hb => (hb.cell (World.block_lt_of_cell? W _ h)).trans h
  have c0' := KC c0
  have c1' := KC c1
  clear KC hh
  obtain ⟨r1, hr1⟩ : ∃ r, r = within s.1 0 100 := ⟨_, rfl⟩
  obtain ⟨r2, hr2⟩ : ∃ r, r = within s.2 s.1 100 := ⟨_, rfl⟩
  have hs : spanOk s 100 = (r1 && r2) := by rw [hr1, hr2]; rfl
  rw [hs]
  have k1 : ∀ wx, Calls Tryd.prog 46 #[.int .i64 s.1, .int .i64 0, .int .i64 100] wx fun e w' => e = .returned (.bool r1) ∧ wx = w' := fun wx => by rw [hr1]; exact icein_any _ _ _ wx
  have k2 : ∀ wx, Calls Tryd.prog 46 #[.int .i64 s.2, .int .i64 s.1, .int .i64 100] wx fun e w' => e = .returned (.bool r2) ∧ wx = w' := fun wx => by rw [hr2]; exact icein_any _ _ _ wx
  have H := Lib.hid (And.intro k1 (And.intro k2 bW))
  clear hr1 hr2 hs k1 k2 bW
  have hx := fun w => (most_index w).2.1
  cases r1
  · go_enter Tryd.func71, Tryd.ntmps71
    go_upto_region 1 with fail
    rw [← hW, ← hib]
    clear hW hib
    refine wp_region_stepsG (σ := Unit) (by kernel_rfl) (by kernel_rfl) (fun _ jx vx _ => RiV s ib 2 100 jx vx) (fun _ ly wx => Below W.heap.size W wx) () ?_ ?_ ?_
    · exact (Below.refl _ _).drew
    · simp only [AllFrom, Nat.zero_add, Nat.reduceAdd]
      refine ⟨?_, ?_, ?_, ?_, ?_, ?_, ?_, ?_, ?_, ?_, ?_, ?_, ?_, ?_, ?_, ?_, ?_, trivial⟩
      · refine stepG_plain rfl (step_pure fun sg ly a wr hl hd hW hF => ?_)
        have et2 := hF.old 2 (by kernel_rfl)
        simp [Act.eval] at et2
        exact ⟨hW, _, by go_simp, rfl⟩
      · refine stepG_plain rfl (step_pure fun sg ly a wr hl hd hW hF => ?_)
        simp [Region.binds] at hd
        have et5 := hF.new 0 5 (by simp [hd]) rfl
        simp [RiV, Act.eval] at et5
        have k0 := c0' _ hW
        exact ⟨hW, _, by go_simp, rfl⟩
      · refine stepG_plain rfl (step_call fun sg ly a wr hl hd hW hF => ?_)
        refine ⟨77, #[], by go_simp, ?_⟩
        refine (most_any wr).mono ?_
        rintro e w2 ⟨rfl, b2⟩
        exact ⟨_, (), rfl, hW.trans (b2.mono hW.size), rfl, fun _ _ _ h => h⟩
      · refine stepG_plain rfl (step_pure fun sg ly a wr hl hd hW hF => ?_)
        have et1 := hF.old 1 (by kernel_rfl)
        simp [Act.eval] at et1
        exact ⟨hW, _, by go_simp, rfl⟩
      · refine stepG_plain rfl (step_pure fun sg ly a wr hl hd hW hF => ?_)
        simp [Region.binds] at hd
        have et7 := hF.new 2 7 (by simp [hd]) rfl
        simp [RiV, Act.eval] at et7
        have et8 := hF.new 3 8 (by simp [hd]) rfl
        simp [RiV, Act.eval] at et8
        exact ⟨hW, _, by go_simp, rfl⟩
      · refine stepG_plain rfl (step_call fun sg ly a wr hl hd hW hF => ?_)
        simp [Region.binds] at hd
        have et6 := hF.new 1 6 (by simp [hd]) rfl
        simp [RiV, Act.eval] at et6
        have et9 := hF.new 4 9 (by simp [hd]) rfl
        simp [RiV, Act.eval] at et9
        refine ⟨46, #[.int .i64 s.1, .int .i64 0, .int .i64 100], by go_simp, ?_⟩
        refine (H.out.1 wr).mono ?_
        rintro e w2 ⟨rfl, rfl⟩
        exact ⟨_, (), rfl, hW, rfl, fun _ _ _ h => h⟩
      · refine stepG_plain rfl (step_pure fun sg ly a wr hl hd hW hF => ?_)
        simp [Region.binds] at hd
        have et10 := hF.new 5 10 (by simp [hd]) rfl
        simp [RiV, Act.eval] at et10
        exact ⟨hW, _, by go_simp, rfl⟩
      · refine stepG_guard (fun sg ly a wr hl hd hW hF hw => ?_) (fun sg ly a wr hl hd hW hF hw => ⟨hW, trivial⟩)
        simp [Region.binds] at hd
        obtain ⟨u, hu, hp⟩ := hF.vals 6 _ 11 (by simp [hd]) rfl rfl
        simp [RiV] at hp
        subst hp
        simp [Region.wanted, yielded, hu] at hw
      · refine stepG_guard (fun sg ly a wr hl hd hW hF hw => ?_) (fun sg ly a wr hl hd hW hF hw => ⟨hW, trivial⟩)
        simp [Region.binds] at hd
        obtain ⟨u, hu, hp⟩ := hF.vals 6 _ 11 (by simp [hd]) rfl rfl
        simp [RiV] at hp
        subst hp
        simp [Region.wanted, yielded, hu] at hw
      · refine stepG_guard (fun sg ly a wr hl hd hW hF hw => ?_) (fun sg ly a wr hl hd hW hF hw => ⟨hW, trivial⟩)
        simp [Region.binds] at hd
        obtain ⟨u, hu, hp⟩ := hF.vals 6 _ 11 (by simp [hd]) rfl rfl
        simp [RiV] at hp
        subst hp
        simp [Region.wanted, yielded, hu] at hw
      · refine stepG_guard (fun sg ly a wr hl hd hW hF hw => ?_) (fun sg ly a wr hl hd hW hF hw => ⟨hW, trivial⟩)
        simp [Region.binds] at hd
        obtain ⟨u, hu, hp⟩ := hF.vals 6 _ 11 (by simp [hd]) rfl rfl
        simp [RiV] at hp
        subst hp
        simp [Region.wanted, yielded, hu] at hw
      · refine stepG_guard (fun sg ly a wr hl hd hW hF hw => ?_) (fun sg ly a wr hl hd hW hF hw => ⟨hW, trivial⟩)
        simp [Region.binds] at hd
        obtain ⟨u, hu, hp⟩ := hF.vals 6 _ 11 (by simp [hd]) rfl rfl
        simp [RiV] at hp
        subst hp
        simp [Region.wanted, yielded, hu] at hw
      · refine stepG_guard (fun sg ly a wr hl hd hW hF hw => ?_) (fun sg ly a wr hl hd hW hF hw => ⟨hW, trivial⟩)
        simp [Region.binds] at hd
        obtain ⟨u, hu, hp⟩ := hF.vals 6 _ 11 (by simp [hd]) rfl rfl
        simp [RiV] at hp
        subst hp
        simp [Region.wanted, yielded, hu] at hw
      · refine stepG_guard (fun sg ly a wr hl hd hW hF hw => ?_) (fun sg ly a wr hl hd hW hF hw => ⟨hW, trivial⟩)
        simp [Region.binds] at hd
        obtain ⟨u, hu, hp⟩ := hF.vals 6 _ 11 (by simp [hd]) rfl rfl
        simp [RiV] at hp
        subst hp
        simp [Region.wanted, yielded, hu] at hw
      · refine stepG_guard (fun sg ly a wr hl hd hW hF hw => ?_) (fun sg ly a wr hl hd hW hF hw => ⟨hW, trivial⟩)
        simp [Region.binds] at hd
        obtain ⟨u, hu, hp⟩ := hF.vals 6 _ 11 (by simp [hd]) rfl rfl
        simp [RiV] at hp
        subst hp
        simp [Region.wanted, yielded, hu] at hw
      · refine stepG_plain rfl (step_pure fun sg ly a wr hl hd hW hF => ?_)
        simp [Region.binds] at hd
        have et11 := hF.new 6 11 (by simp [hd]) rfl
        simp [RiV, Act.eval] at et11
        exact ⟨hW, _, by go_simp, rfl⟩
      · refine stepG_plain rfl (step_pure fun sg ly a wr hl hd hW hF => ?_)
        simp [Region.binds] at hd
        have et20 := hF.new 15 20 (by simp [hd]) rfl
        simp [RiV, Act.eval] at et20
        exact ⟨hW, _, by go_simp, rfl⟩
    intro sg a w5 hW hF
    have e4 := hF.new 16 4 (by decide) rfl
    obtain ⟨f, hf, rfl⟩ := hF.lit
    rw [← hf] at e4
    simp only [RiV] at e4
    have HB := Lib.hid hW
    clear hf hF hW
    simp only [List.filterMap, List.foldl, List.setIfInBounds_toArray, List.set_cons_succ, List.set_cons_zero, e4]
    clear e4
    go_wp2_with fail
    go_ret
    exact ⟨rfl, H.out.2.2.trans (HB.out.mono H.out.2.2.size)⟩
  · go_enter Tryd.func71, Tryd.ntmps71
    go_upto_region 1 with fail
    rw [← hW, ← hib]
    clear hW hib
    go_region_held3 (fun w' => Below W.heap.size W w') (first | exact (Below.refl _ _).drew | assumption)
      (first
        | (go_at_call 77
           have bb := B2
           clear bb
           refine (most_any _).mono ?_
           rintro e w4 ⟨rfl, b4⟩
           have B4 : Below W.heap.size W w4 := B2.trans (b4.mono B2.size)
           clear b4)
        | (go_at_call 77
           refine (most_any _).mono ?_
           rintro e w2 ⟨rfl, b2⟩
           have B2 : Below W.heap.size W w2 := (Below.refl _ _).drew.trans b2
           clear b2)
        | (go_at_call 46
           have bb := B4
           clear bb
           refine (H.out.2.1 _).mono ?_
           rintro e w5 ⟨rfl, rfl⟩)
        | (go_at_call 46
           refine (H.out.1 _).mono ?_
           rintro e w3 ⟨rfl, rfl⟩)
        | fail)
    have HB := Lib.hid B4
    clear B2 B4
    go_wp2_with fail
    go_ret
    exact ⟨by simp, H.out.2.2.trans (HB.out.mono H.out.2.2.size)⟩

set_option maxRecDepth 100000 in
set_option maxHeartbeats 2000000 in
theorem right3_any (s : Int × Int) (w : World) :
    Calls Tryd.prog 71 #[.agg #[.int .i64 s.1, .int .i64 s.2], .int .i64 3] w fun e w' => e = .returned (.bool (spanOk s 3)) ∧ Below w.heap.size w w' := by
  obtain ⟨W, hW⟩ : ∃ W, W = w.alloc (.cells #[.int .i64 s.1, .int .i64 s.2] 28) := ⟨_, rfl⟩
  obtain ⟨ib, hib⟩ : ∃ b, b = w.heap.size := ⟨_, rfl⟩
  have hh : W.heap[ib]? = some (.cells #[.int .i64 s.1, .int .i64 s.2] 28 (0, 0)) := by rw [hW, hib]; exact heap_alloc_new _ _
  have bW : Below w.heap.size w W := by rw [hW]; exact (Below.refl _ _).alloc (Nat.le_refl _) _
  have c0 := (cell_of_heap hh 0).trans rfl
  have c1 := (cell_of_heap hh 1).trans rfl
  have zb := heap_lt hh
  have KC : ∀ {b o : Nat} {u : Value}, W.cell? ⟨b, o, none⟩ = some u → ∀ w', Below W.heap.size W w' → w'.cell? ⟨b, o, none⟩ = some u := fun h w' hb => (hb.cell (World.block_lt_of_cell? W _ h)).trans h
  have c0' := KC c0
  have c1' := KC c1
  clear KC hh
  obtain ⟨r1, hr1⟩ : ∃ r, r = within s.1 0 3 := ⟨_, rfl⟩
  obtain ⟨r2, hr2⟩ : ∃ r, r = within s.2 s.1 3 := ⟨_, rfl⟩
  have hs : spanOk s 3 = (r1 && r2) := by rw [hr1, hr2]; rfl
  rw [hs]
  have k1 : ∀ wx, Calls Tryd.prog 46 #[.int .i64 s.1, .int .i64 0, .int .i64 3] wx fun e w' => e = .returned (.bool r1) ∧ wx = w' := fun wx => by rw [hr1]; exact icein_any _ _ _ wx
  have k2 : ∀ wx, Calls Tryd.prog 46 #[.int .i64 s.2, .int .i64 s.1, .int .i64 3] wx fun e w' => e = .returned (.bool r2) ∧ wx = w' := fun wx => by rw [hr2]; exact icein_any _ _ _ wx
  have H := Lib.hid (And.intro k1 (And.intro k2 bW))
  clear hr1 hr2 hs k1 k2 bW
  have hx := fun w => (most_index w).2.2
  cases r1
  · go_enter Tryd.func71, Tryd.ntmps71
    go_upto_region 1 with fail
    rw [← hW, ← hib]
    clear hW hib
    refine wp_region_stepsG (σ := Unit) (by kernel_rfl) (by kernel_rfl) (fun _ jx vx _ => RiV s ib 3 3 jx vx) (fun _ ly wx => Below W.heap.size W wx) () ?_ ?_ ?_
    · exact (Below.refl _ _).drew
    · simp only [AllFrom, Nat.zero_add, Nat.reduceAdd]
      refine ⟨?_, ?_, ?_, ?_, ?_, ?_, ?_, ?_, ?_, ?_, ?_, ?_, ?_, ?_, ?_, ?_, ?_, trivial⟩
      · refine stepG_plain rfl (step_pure fun sg ly a wr hl hd hW hF => ?_)
        have et2 := hF.old 2 (by kernel_rfl)
        simp [Act.eval] at et2
        exact ⟨hW, _, by go_simp, rfl⟩
      · refine stepG_plain rfl (step_pure fun sg ly a wr hl hd hW hF => ?_)
        simp [Region.binds] at hd
        have et5 := hF.new 0 5 (by simp [hd]) rfl
        simp [RiV, Act.eval] at et5
        have k0 := c0' _ hW
        exact ⟨hW, _, by go_simp, rfl⟩
      · refine stepG_plain rfl (step_call fun sg ly a wr hl hd hW hF => ?_)
        refine ⟨77, #[], by go_simp, ?_⟩
        refine (most_any wr).mono ?_
        rintro e w2 ⟨rfl, b2⟩
        exact ⟨_, (), rfl, hW.trans (b2.mono hW.size), rfl, fun _ _ _ h => h⟩
      · refine stepG_plain rfl (step_pure fun sg ly a wr hl hd hW hF => ?_)
        have et1 := hF.old 1 (by kernel_rfl)
        simp [Act.eval] at et1
        exact ⟨hW, _, by go_simp, rfl⟩
      · refine stepG_plain rfl (step_pure fun sg ly a wr hl hd hW hF => ?_)
        simp [Region.binds] at hd
        have et7 := hF.new 2 7 (by simp [hd]) rfl
        simp [RiV, Act.eval] at et7
        have et8 := hF.new 3 8 (by simp [hd]) rfl
        simp [RiV, Act.eval] at et8
        exact ⟨hW, _, by go_simp, rfl⟩
      · refine stepG_plain rfl (step_call fun sg ly a wr hl hd hW hF => ?_)
        simp [Region.binds] at hd
        have et6 := hF.new 1 6 (by simp [hd]) rfl
        simp [RiV, Act.eval] at et6
        have et9 := hF.new 4 9 (by simp [hd]) rfl
        simp [RiV, Act.eval] at et9
        refine ⟨46, #[.int .i64 s.1, .int .i64 0, .int .i64 3], by go_simp, ?_⟩
        refine (H.out.1 wr).mono ?_
        rintro e w2 ⟨rfl, rfl⟩
        exact ⟨_, (), rfl, hW, rfl, fun _ _ _ h => h⟩
      · refine stepG_plain rfl (step_pure fun sg ly a wr hl hd hW hF => ?_)
        simp [Region.binds] at hd
        have et10 := hF.new 5 10 (by simp [hd]) rfl
        simp [RiV, Act.eval] at et10
        exact ⟨hW, _, by go_simp, rfl⟩
      · refine stepG_guard (fun sg ly a wr hl hd hW hF hw => ?_) (fun sg ly a wr hl hd hW hF hw => ⟨hW, trivial⟩)
        simp [Region.binds] at hd
        obtain ⟨u, hu, hp⟩ := hF.vals 6 _ 11 (by simp [hd]) rfl rfl
        simp [RiV] at hp
        subst hp
        simp [Region.wanted, yielded, hu] at hw
      · refine stepG_guard (fun sg ly a wr hl hd hW hF hw => ?_) (fun sg ly a wr hl hd hW hF hw => ⟨hW, trivial⟩)
        simp [Region.binds] at hd
        obtain ⟨u, hu, hp⟩ := hF.vals 6 _ 11 (by simp [hd]) rfl rfl
        simp [RiV] at hp
        subst hp
        simp [Region.wanted, yielded, hu] at hw
      · refine stepG_guard (fun sg ly a wr hl hd hW hF hw => ?_) (fun sg ly a wr hl hd hW hF hw => ⟨hW, trivial⟩)
        simp [Region.binds] at hd
        obtain ⟨u, hu, hp⟩ := hF.vals 6 _ 11 (by simp [hd]) rfl rfl
        simp [RiV] at hp
        subst hp
        simp [Region.wanted, yielded, hu] at hw
      · refine stepG_guard (fun sg ly a wr hl hd hW hF hw => ?_) (fun sg ly a wr hl hd hW hF hw => ⟨hW, trivial⟩)
        simp [Region.binds] at hd
        obtain ⟨u, hu, hp⟩ := hF.vals 6 _ 11 (by simp [hd]) rfl rfl
        simp [RiV] at hp
        subst hp
        simp [Region.wanted, yielded, hu] at hw
      · refine stepG_guard (fun sg ly a wr hl hd hW hF hw => ?_) (fun sg ly a wr hl hd hW hF hw => ⟨hW, trivial⟩)
        simp [Region.binds] at hd
        obtain ⟨u, hu, hp⟩ := hF.vals 6 _ 11 (by simp [hd]) rfl rfl
        simp [RiV] at hp
        subst hp
        simp [Region.wanted, yielded, hu] at hw
      · refine stepG_guard (fun sg ly a wr hl hd hW hF hw => ?_) (fun sg ly a wr hl hd hW hF hw => ⟨hW, trivial⟩)
        simp [Region.binds] at hd
        obtain ⟨u, hu, hp⟩ := hF.vals 6 _ 11 (by simp [hd]) rfl rfl
        simp [RiV] at hp
        subst hp
        simp [Region.wanted, yielded, hu] at hw
      · refine stepG_guard (fun sg ly a wr hl hd hW hF hw => ?_) (fun sg ly a wr hl hd hW hF hw => ⟨hW, trivial⟩)
        simp [Region.binds] at hd
        obtain ⟨u, hu, hp⟩ := hF.vals 6 _ 11 (by simp [hd]) rfl rfl
        simp [RiV] at hp
        subst hp
        simp [Region.wanted, yielded, hu] at hw
      · refine stepG_guard (fun sg ly a wr hl hd hW hF hw => ?_) (fun sg ly a wr hl hd hW hF hw => ⟨hW, trivial⟩)
        simp [Region.binds] at hd
        obtain ⟨u, hu, hp⟩ := hF.vals 6 _ 11 (by simp [hd]) rfl rfl
        simp [RiV] at hp
        subst hp
        simp [Region.wanted, yielded, hu] at hw
      · refine stepG_plain rfl (step_pure fun sg ly a wr hl hd hW hF => ?_)
        simp [Region.binds] at hd
        have et11 := hF.new 6 11 (by simp [hd]) rfl
        simp [RiV, Act.eval] at et11
        exact ⟨hW, _, by go_simp, rfl⟩
      · refine stepG_plain rfl (step_pure fun sg ly a wr hl hd hW hF => ?_)
        simp [Region.binds] at hd
        have et20 := hF.new 15 20 (by simp [hd]) rfl
        simp [RiV, Act.eval] at et20
        exact ⟨hW, _, by go_simp, rfl⟩
    intro sg a w5 hW hF
    have e4 := hF.new 16 4 (by decide) rfl
    obtain ⟨f, hf, rfl⟩ := hF.lit
    rw [← hf] at e4
    simp only [RiV] at e4
    have HB := Lib.hid hW
    clear hf hF hW
    simp only [List.filterMap, List.foldl, List.setIfInBounds_toArray, List.set_cons_succ, List.set_cons_zero, e4]
    clear e4
    go_wp2_with fail
    go_ret
    exact ⟨rfl, H.out.2.2.trans (HB.out.mono H.out.2.2.size)⟩
  · go_enter Tryd.func71, Tryd.ntmps71
    go_upto_region 1 with fail
    rw [← hW, ← hib]
    clear hW hib
    go_region_held3 (fun w' => Below W.heap.size W w') (first | exact (Below.refl _ _).drew | assumption)
      (first
        | (go_at_call 77
           have bb := B2
           clear bb
           refine (most_any _).mono ?_
           rintro e w4 ⟨rfl, b4⟩
           have B4 : Below W.heap.size W w4 := B2.trans (b4.mono B2.size)
           clear b4)
        | (go_at_call 77
           refine (most_any _).mono ?_
           rintro e w2 ⟨rfl, b2⟩
           have B2 : Below W.heap.size W w2 := (Below.refl _ _).drew.trans b2
           clear b2)
        | (go_at_call 46
           have bb := B4
           clear bb
           refine (H.out.2.1 _).mono ?_
           rintro e w5 ⟨rfl, rfl⟩)
        | (go_at_call 46
           refine (H.out.1 _).mono ?_
           rintro e w3 ⟨rfl, rfl⟩)
        | fail)
    have HB := Lib.hid B4
    clear B2 B4
    go_wp2_with fail
    go_ret
    exact ⟨by simp, H.out.2.2.trans (HB.out.mono H.out.2.2.size)⟩

end Go.Proofs.YtalcinepeofmcaaDoor
/- cells of a chart -/
namespace Go.Proofs.YtalcinepeofmcaaDoor
open Go Go.RowKit Sp
set_option linter.unusedVariables false

/-- a cell of a chart: four spans -/
structure Cel where
  a0 : Int
  a1 : Int
  b0 : Int
  b1 : Int
  c0 : Int
  c1 : Int
  d0 : Int
  d1 : Int
deriving DecidableEq, Inhabited
def cel (x : Cel) : List Value := [.int .i64 x.a0, .int .i64 x.a1, .int .i64 x.b0, .int .i64 x.b1, .int .i64 x.c0, .int .i64 x.c1, .int .i64 x.d0, .int .i64 x.d1]
abbrev celA (x : Cel) : Array Value := #[.int .i64 x.a0, .int .i64 x.a1, .int .i64 x.b0, .int .i64 x.b1, .int .i64 x.c0, .int .i64 x.c1, .int .i64 x.d0, .int .i64 x.d1]
def cels (l : List Cel) : List Value := l.flatMap cel
theorem cels_one (l : List Cel) : ∀ u ∈ cels l, u.oneCell' = true := by
  intro u hu
  simp only [cels, cel, List.mem_flatMap] at hu
  obtain ⟨x, _, hx⟩ := hu
  simp at hx
  rcases hx with rfl | rfl | rfl | rfl | rfl | rfl | rfl | rfl <;> rfl
theorem cels_get {l : List Cel} {k : Nat} (hk : k < l.length) : (cels l)[k*8]? = some (.int .i64 l[k].a0) ∧ (cels l)[k*8+1]? = some (.int .i64 l[k].a1) ∧ (cels l)[k*8+2]? = some (.int .i64 l[k].b0) ∧ (cels l)[k*8+3]? = some (.int .i64 l[k].b1) ∧
    (cels l)[k*8+4]? = some (.int .i64 l[k].c0) ∧ (cels l)[k*8+5]? = some (.int .i64 l[k].c1) ∧ (cels l)[k*8+6]? = some (.int .i64 l[k].d0) ∧ (cels l)[k*8+7]? = some (.int .i64 l[k].d1) := by
  induction l generalizing k with
  | nil => simp at hk
  | cons s l ih =>
    cases k with
    | zero => simp [cels, cel]
    | succ k =>
      have h4 : ∀ j, (cels (s :: l))[8 + j]? = (cels l)[j]? := fun j => by
        simp only [cels, List.flatMap_cons, cel]
        rw [List.getElem?_append_right (by simp)]
        simp
      have e : ∀ j, (k+1)*8 + j = 8 + (k*8 + j) := fun j => by omega
      have e0 : (k+1)*8 = 8 + k*8 := by omega
      have hk' : k < l.length := by simpa using hk
      rw [e, e, e, e, e, e, e, e0, h4, h4, h4, h4, h4, h4, h4, h4]
      simpa using ih hk'
end Go.Proofs.YtalcinepeofmcaaDoor
/- ice: CheckCell -/
namespace Go.Proofs.YtalcinepeofmcaaDoor
open Go Go.RowKit Sp
set_option linter.unusedVariables false

def celOk (x : Cel) : Bool := spanOk (x.a0, x.a1) 100 && spanOk (x.b0, x.b1) 400 && spanOk (x.c0, x.c1) 100 && spanOk (x.d0, x.d1) 3
def celN (x : Cel) : Nat → Bool
  | 0 => spanOk (x.a0, x.a1) 100
  | 1 => spanOk (x.b0, x.b1) 400
  | 2 => spanOk (x.c0, x.c1) 100
  | _ => spanOk (x.d0, x.d1) 3
def celE (x : Cel) : Int := if celOk x then 0 else 20

theorem spans_any (x : Cel) (w : World) :
    Calls Tryd.prog 68 #[.agg (celA x)] w fun e w' => e = .returned (.agg (celA x)) ∧ Below w.heap.size w w' := by
  go_enter Tryd.func68, Tryd.ntmps68
  go_wp2_with fail
  exact bodyPost_ret (v := .agg (celA x)) (by simp [results, Tryd.results68, go_sem]) rfl ⟨rfl, ((Below.refl _ _).alloc (Nat.le_refl _) _).alloc (by simp) _⟩

set_option maxRecDepth 100000 in
set_option maxHeartbeats 1000000 in
theorem ckcel_any (x : Cel) (b : Nat) (k : Nat) (hk : k < 4) (w : World) (hb : w.heap[b]? = some (.cells (celA x) 113 (0, 0))) :
    Calls Tryd.prog 70 #[.int .i64 k, .pointer (some ⟨b, 0, none⟩)] w fun e w' => e = .returned (.bool (celN x k)) ∧ Below w.heap.size w w' := by
  have c0 := (cell_of_heap hb 0).trans rfl
  have c1 := (cell_of_heap hb 1).trans rfl
  have c2 := (cell_of_heap hb 2).trans rfl
  have c3 := (cell_of_heap hb 3).trans rfl
  have c4 := (cell_of_heap hb 4).trans rfl
  have c5 := (cell_of_heap hb 5).trans rfl
  have c6 := (cell_of_heap hb 6).trans rfl
  have c7 := (cell_of_heap hb 7).trans rfl
  have zb := heap_lt hb
  clear hb
  rcases (by omega : k = 0 ∨ k = 1 ∨ k = 2 ∨ k = 3) with rfl | rfl | rfl | rfl
  · have H := Lib.hid (right0_any (x.a0, x.a1) w)
    show Calls Tryd.prog 70 #[.int .i64 0, .pointer (some ⟨b, 0, none⟩)] w _
    go_enter Tryd.func70, Tryd.ntmps70
    go_wp2_with (go_at_call 71; refine H.out.mono ?_; rintro e w2 ⟨rfl, b2⟩)
    go_ret
    exact ⟨rfl, b2⟩
  · have H := Lib.hid (right1_any (x.b0, x.b1) w)
    show Calls Tryd.prog 70 #[.int .i64 1, .pointer (some ⟨b, 0, none⟩)] w _
    go_enter Tryd.func70, Tryd.ntmps70
    go_wp2_with (go_at_call 71; refine H.out.mono ?_; rintro e w2 ⟨rfl, b2⟩)
    go_ret
    exact ⟨rfl, b2⟩
  · have H := Lib.hid (right2_any (x.c0, x.c1) w)
    show Calls Tryd.prog 70 #[.int .i64 2, .pointer (some ⟨b, 0, none⟩)] w _
    go_enter Tryd.func70, Tryd.ntmps70
    go_wp2_with (go_at_call 71; refine H.out.mono ?_; rintro e w2 ⟨rfl, b2⟩)
    go_ret
    exact ⟨rfl, b2⟩
  · have H := Lib.hid (right3_any (x.d0, x.d1) w)
    show Calls Tryd.prog 70 #[.int .i64 3, .pointer (some ⟨b, 0, none⟩)] w _
    go_enter Tryd.func70, Tryd.ntmps70
    go_wp2_with (go_at_call 71; refine H.out.mono ?_; rintro e w2 ⟨rfl, b2⟩)
    go_ret
    exact ⟨rfl, b2⟩

set_option maxRecDepth 100000 in
set_option maxHeartbeats 1000000 in
theorem allCel_any (b : Nat) (g : Nat → Bool) (w : World) (hg : ∀ k : Nat, k < 4 → ∀ wx, Below w.heap.size w wx → Calls Tryd.prog 70 #[.int .i64 k, .pointer (some ⟨b, 0, none⟩)] wx fun e w' => e = .returned (.bool (g k)) ∧ Below wx.heap.size wx w') :
    Calls Tryd.prog 69 #[.func (.func 70) #[] #[.pointer (some ⟨b, 0, none⟩)]] w fun e w' => e = .returned (.bool (g 0 && g 1 && g 2 && g 3)) ∧ Below w.heap.size w w' := by
  have HG := Lib.hid hg
  clear hg
  go_enter Tryd.func69, Tryd.ntmps69
  go_wp2_with (go_at_call 77; refine (most_any _).mono ?_; rintro e w1 ⟨rfl, b1⟩)
  go_loopw [5] (fun i wr => ∃ k : Nat, k ≤ 4 ∧ i = .int .i64 k ∧ (∀ j, j < k → g j = true) ∧ Below w.heap.size w wr) (fun i _ => 4 - (intOf i).toNat)
  case atStart => exact ⟨0, by omega, rfl, by omega, b1⟩
  case round =>
    obtain ⟨k, hk, rfl, hall, hb⟩ := hrel
    have HB := Lib.hid (And.intro hall hb)
    clear hall hb b1
    by_cases hlt : k < 4
    · obtain ⟨r, hr⟩ : ∃ r, r = g k := ⟨_, rfl⟩
      have hc := HG.out k hlt wr HB.out.2
      rw [← hr] at hc
      have n2 : (k : Int) < 4 := by omega
      have HC := Lib.hid (And.intro hc hr)
      clear hc hr
      cases r
      · go_wp2_with (go_at_call 70; refine HC.out.1.mono ?_; rintro e w2 ⟨rfl, b2⟩)
        go_ret
        refine ⟨?_, HB.out.2.trans (b2.mono HB.out.2.size)⟩
        have hf := HC.out.2.symm
        have : (g 0 && g 1 && g 2 && g 3) = false := by
          rcases (by omega : k = 0 ∨ k = 1 ∨ k = 2 ∨ k = 3) with rfl | rfl | rfl | rfl <;> simp [hf]
        rw [this]; rfl
      · go_wp2_with (go_at_call 70; refine HC.out.1.mono ?_; rintro e w2 ⟨rfl, b2⟩)
        go_roundw
        case measure => simp [intOf]; omega
        case rel =>
          refine ⟨k + 1, by omega, by go_num, fun j hj => ?_, HB.out.2.trans (b2.mono HB.out.2.size)⟩
          by_cases h : j = k
          · rw [h, ← HC.out.2]
          · exact HB.out.1 j (by omega)
    · obtain rfl : k = 4 := by omega
      go_wp2_with fail
      go_ret
      refine ⟨?_, HB.out.2⟩
      have h := HB.out.1
      rw [h 0 (by omega), h 1 (by omega), h 2 (by omega), h 3 (by omega)]; rfl

set_option maxRecDepth 100000 in
set_option maxHeartbeats 1000000 in
theorem checkCell_any (x : Cel) (w : World) :
    Calls Tryd.prog 43 #[.agg (celA x)] w fun e w' => e = .returned (.int .i64 (celE x)) ∧ Below w.heap.size w w' := by
  obtain ⟨r, hr⟩ : ∃ r, r = celOk x := ⟨_, rfl⟩
  have hE : celE x = if r then 0 else 20 := by rw [hr]; rfl
  have b0 : Below w.heap.size w (w.alloc (.cells (celA x) 30)) := (Below.refl _ _).alloc (Nat.le_refl _) _
  have HR := Lib.hid (And.intro hr (And.intro hE b0))
  clear hr hE b0
  go_enter Tryd.func43, Tryd.ntmps43
  go_upto_region 2 with (go_at_call 68; refine (spans_any x _).mono ?_; rintro e w1 ⟨rfl, b1⟩)
  have bb := HR.out.2.2.trans (b1.mono (by simp))
  obtain ⟨W, hW⟩ : ∃ W, W = w1.alloc (.cells (celA x) 113) := ⟨_, rfl⟩
  obtain ⟨nb, hnb⟩ : ∃ b, b = w1.heap.size := ⟨_, rfl⟩
  have hh : W.heap[nb]? = some (.cells (celA x) 113 (0, 0)) := by rw [hW, hnb]; exact heap_alloc_new _ _
  have bW : Below w.heap.size w W := by rw [hW]; exact bb.alloc bb.size _
  rw [← hW, ← hnb]
  have ka := allCel_any nb (celN x) W (fun (k : Nat) hk wx hx => ckcel_any x nb k hk wx ((hx.block _ (heap_lt hh)).trans hh))
  have hk : (celN x 0 && celN x 1 && celN x 2 && celN x 3) = r := HR.out.1.symm
  rw [hk] at ka
  have HA := Lib.hid (And.intro ka bW)
  clear ka bW hh hW hnb bb b1 hk
  cases r
  · go_wp2_with (go_at_call 69; refine HA.out.1.mono ?_; rintro e w2 ⟨rfl, b2⟩)
    go_ret
    exact ⟨by rw [HR.out.2.1]; rfl, HA.out.2.trans (b2.mono HA.out.2.size)⟩
  · go_wp2_with (go_at_call 69; refine HA.out.1.mono ?_; rintro e w2 ⟨rfl, b2⟩)
    go_ret
    exact ⟨by rw [HR.out.2.1]; rfl, HA.out.2.trans (b2.mono HA.out.2.size)⟩
end Go.Proofs.YtalcinepeofmcaaDoor
/- hull: asked, met, Limit; port.Takes (printed by wip/tools/hull5.py) -/
namespace Go.Proofs.YtalcinepeofmcaaDoor
open Go Go.RowKit Sp Hu
set_option linter.unusedVariables false
set_option linter.unusedSimpArgs false

def icE (i : Ic) : Int := if within i.con 0 100 && within i.thk 0 400 && within i.rid 0 100 && within i.prs 0 3 then 0 else 20
abbrev icV (i : Ic) : Array Value := #[.int .i64 i.con, .int .i64 i.thk, .int .i64 i.rid, .int .i64 i.prs]
def loadE (i : Ic) (v : Int) : Int := if icE i ≠ 0 then icE i else if within v 0 250 = false then 6 else 0

def huAskedE (s : Shp) (i : Ic) (v : Int) : Int := if shipE s ≠ 0 then shipE s else loadE i v

def metE (s : Shp) (x : Cel) : Int := if shipE s ≠ 0 then shipE s else celE x
set_option maxRecDepth 100000 in
theorem met_any (At : Option Addr) (ct : Nat) (Aw : Option Addr) (cw : Nat) (Ai : Option Addr) (ci : Nat) (s : Shp) (x : Cel) (w : World) (R : ShR At Aw Ai s w) :
    Calls Tryd.prog 24 #[.agg (shpV At ct Aw cw Ai ci s), .agg (celA x)] w fun e w' => e = .returned (.int .i64 (metE s x)) ∧ Below w.heap.size w w' := by
  obtain ⟨X, hX⟩ : ∃ X, X = (w.alloc (.cells (shpV At ct Aw cw Ai ci s) 25)).alloc (.cells (celA x) 30) := ⟨_, rfl⟩
  have O : Own w.heap.size w [.blk w.heap.size (.cells (shpV At ct Aw cw Ai ci s) 25), .blk (w.heap.size + 1) (.cells (celA x) 30)] X := by
    have h := ((Own.start w).alloc (.cells (shpV At ct Aw cw Ai ci s) 25)).alloc (.cells (celA x) 30)
    rw [hX]; simpa using h
  obtain ⟨e0, he⟩ : ∃ e, e = shipE s := ⟨_, rfl⟩
  have k0 := hucheck_any At ct Aw cw Ai ci s X (R.below O.bel)
  rw [← he] at k0
  have H0 := Lib.hid (And.intro k0 (And.intro O (checkCell_any x)))
  unfold metE
  rw [← he]
  clear k0 O he R
  by_cases h0 : e0 = 0
  · subst h0
    go_enter Tryd.func24, Tryd.ntmps24
    go_upto_region 1 with fail
    rw [← hX]
    have hh := H0.out.2.1.heap 0 rfl
    have s0 := (cell_of_heap hh 0).trans rfl
    have s1 := (cell_of_heap hh 1).trans rfl
    have s2 := (cell_of_heap hh 2).trans rfl
    have s3 := (cell_of_heap hh 3).trans rfl
    have s4 := (cell_of_heap hh 4).trans rfl
    have s5 := (cell_of_heap hh 5).trans rfl
    have s6 := (cell_of_heap hh 6).trans rfl
    have s7 := (cell_of_heap hh 7).trans rfl
    have s8 := (cell_of_heap hh 8).trans rfl
    have s9 := (cell_of_heap hh 9).trans rfl
    have s10 := (cell_of_heap hh 10).trans rfl
    have zs := heap_lt hh
    clear hX hh
    go_wp2_with (first | (go_at_call 42; refine H0.out.1.mono ?_; rintro e w' ⟨rfl, b1⟩; have O1 := H0.out.2.1.below b1; have h1 := O1.heap 1 rfl; have y0 := (cell_of_heap h1 0).trans rfl; have y1 := (cell_of_heap h1 1).trans rfl; have y2 := (cell_of_heap h1 2).trans rfl; have y3 := (cell_of_heap h1 3).trans rfl; have y4 := (cell_of_heap h1 4).trans rfl; have y5 := (cell_of_heap h1 5).trans rfl; have y6 := (cell_of_heap h1 6).trans rfl; have y7 := (cell_of_heap h1 7).trans rfl; have z1 := heap_lt h1; have HB := Lib.hid O1; clear b1 O1 h1) | (go_at_call 43; refine (H0.out.2.2 _).mono ?_; rintro e w' ⟨rfl, b1⟩; have HB2 := Lib.hid (HB.out.bel.trans (b1.mono HB.out.bel.size)); clear b1))
    go_ret
    exact ⟨rfl, HB2.out⟩
  · have hn : (e0 != 0) = true := by simpa using h0
    rw [if_pos h0]
    go_enter Tryd.func24, Tryd.ntmps24
    go_upto_region 1 with fail
    rw [← hX]
    have hh := H0.out.2.1.heap 0 rfl
    have s0 := (cell_of_heap hh 0).trans rfl
    have s1 := (cell_of_heap hh 1).trans rfl
    have s2 := (cell_of_heap hh 2).trans rfl
    have s3 := (cell_of_heap hh 3).trans rfl
    have s4 := (cell_of_heap hh 4).trans rfl
    have s5 := (cell_of_heap hh 5).trans rfl
    have s6 := (cell_of_heap hh 6).trans rfl
    have s7 := (cell_of_heap hh 7).trans rfl
    have s8 := (cell_of_heap hh 8).trans rfl
    have s9 := (cell_of_heap hh 9).trans rfl
    have s10 := (cell_of_heap hh 10).trans rfl
    have zs := heap_lt hh
    clear hX hh
    go_wp2_with (go_at_call 42; refine H0.out.1.mono ?_; rintro e w' ⟨rfl, b1⟩; have HB := Lib.hid (H0.out.2.1.bel.trans (b1.mono H0.out.2.1.bel.size)); clear b1)
    go_ret
    exact ⟨rfl, HB.out⟩

end Go.Proofs.YtalcinepeofmcaaDoor
