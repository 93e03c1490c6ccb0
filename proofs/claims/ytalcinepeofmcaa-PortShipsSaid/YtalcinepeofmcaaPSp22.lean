import Derived.Test.YtalcinepeofmcaaPSp21
import Derived.Test.YtalcinepeofmcaaPSp2
import Derived.Deep.DeepCutAuto
import Derived.Test.YtalcinepeofmcaaPSp0
import Derived.Test.YtalcinepeofmcaaPSp20
import Derived.Test.YtalcinepeofmcaaPSp12
import Derived.RangeFuncNested
import Derived.RangeFuncBound
import Derived.RangeFuncCalls
import Derived.RangeFuncLeaves
import Derived.Shelf.Abstract
import Derived.Shelf.RegionOpen
import Derived.OwnWalkIn
import Derived.TacticsInMore
import Derived.LoopNIn
import Derived.LoopIn
import Derived.Sort.CutIn
set_option linter.unusedVariables false
set_option linter.unusedSimpArgs false
set_option maxRecDepth 100000
set_option maxHeartbeats 40000000
namespace Go.Proofs.Ytalcinepeofmcaa
open Go Go.RowKit Sp
def RiV (s : Int × Int) (ib : Nat) (k m : Int) : Nat → Value → Prop
  | 0, u => u = .pointer (some ⟨ib, 0, none⟩)
  | 1, u => u = .int .i64 s.1
  | 2, u => u = .agg #[.int .i64 100, .int .i64 400, .int .i64 100, .int .i64 3]
  | 3, u => u = .int .i64 k
  | 4, u => u = .int .i64 m
  | 5, u => u = .bool false
  | 6, u => u = .bool false
  | 15, u => u = .bool false
  | 16, u => u = .bool false
  | _, _ => True
def spanOk (s : Int × Int) (m : Int) : Bool := within s.1 0 m && within s.2 s.1 m
theorem right0_any (s : Int × Int) (w : World) :
    Calls Try.prog 77 #[.agg #[.int .i64 s.1, .int .i64 s.2], .int .i64 0] w fun e w' => e = .returned (.bool (spanOk s 100)) ∧ Below w.heap.size w w' := by
  obtain ⟨W, hW⟩ : ∃ W, W = w.alloc (.cells #[.int .i64 s.1, .int .i64 s.2] 33) := ⟨_, rfl⟩;obtain ⟨ib, hib⟩ : ∃ b, b = w.heap.size := ⟨_, rfl⟩;have hh : W.heap[ib]? = some (.cells #[.int .i64 s.1, .int .i64 s.2] 33 (0, 0)) := by rw [hW, hib]; exact heap_alloc_new _ _
  have bW : Below w.heap.size w W := by rw [hW]; exact (Below.refl _ _).alloc (Nat.le_refl _) _
  have c0 := (cOH hh 0).trans rfl;have c1 := (cOH hh 1).trans rfl;have zb := hL_ hh;have KC : ∀ {b o : Nat} {u : Value}, W.cell? ⟨b, o, none⟩ = some u → ∀ w', Below W.heap.size W w' → w'.cell? ⟨b, o, none⟩ = some u := fun h w' hb => (hb.cell (World.block_lt_of_cell? W _ h)).trans h;have c0' := KC c0;have c1' := KC c1;clear KC hh;obtain ⟨r1, hr1⟩ : ∃ r, r = within s.1 0 100 := ⟨_, rfl⟩;obtain ⟨r2, hr2⟩ : ∃ r, r = within s.2 s.1 100 := ⟨_, rfl⟩;have hs : spanOk s 100 = (r1 && r2) := by rw [hr1, hr2]; rfl
  rw [hs];have k1 : ∀ wx, Calls Try.prog 89 #[.int .i64 s.1, .int .i64 0, .int .i64 100] wx fun e w' => e = .returned (.bool r1) ∧ wx = w' := fun wx => by rw [hr1]; exact icein_any _ _ _ wx
  have k2 : ∀ wx, Calls Try.prog 89 #[.int .i64 s.2, .int .i64 s.1, .int .i64 100] wx fun e w' => e = .returned (.bool r2) ∧ wx = w' := fun wx => by rw [hr2]; exact icein_any _ _ _ wx
  have H := Lib.hid (And.intro k1 (And.intro k2 bW));clear hr1 hr2 hs k1 k2 bW;have hx := fun w => (most_index w).1.1;cases r1
  · go_enter Try.func77, Try.ntmps77
    go_upto_region 1 with fail
    rw [← hW, ← hib];clear hW hib;refine wp_region_stepsG (σ := Unit) (by kernel_rfl) (by kernel_rfl) (fun _ jx vx _ => RiV s ib 0 100 jx vx) (fun _ ly wx => Below W.heap.size W wx) () ?_ ?_ ?_
    · exact (Below.refl _ _).drew
    · simp only [AllFrom, Nat.zero_add, Nat.reduceAdd];refine ⟨?_, ?_, ?_, ?_, ?_, ?_, ?_, ?_, ?_, ?_, ?_, ?_, ?_, ?_, ?_, ?_, ?_, trivial⟩
      · refine gP_ rfl (sP_ fun sg ly a wr hl hd hW hF => ?_);have et2 := hF.old 2 (by kernel_rfl);simp [Act.eval] at et2;exact ⟨hW, _, by go_simp, rfl⟩
      · refine gP_ rfl (sP_ fun sg ly a wr hl hd hW hF => ?_);simp [Region.binds] at hd;have et5 := hF.new 0 5 (by simp [hd]) rfl;simp [RiV, Act.eval] at et5;have k0 := c0' _ hW;exact ⟨hW, _, by go_simp, rfl⟩
      · refine gP_ rfl (sC_ fun sg ly a wr hl hd hW hF => ?_);refine ⟨90, #[], by go_simp, ?_⟩;refine (most_any wr).mono ?_;rintro e w2 ⟨rfl, b2⟩;exact ⟨_, (), rfl, hW.trans (b2.mono hW.size), rfl, fun _ _ _ h => h⟩
      · refine gP_ rfl (sP_ fun sg ly a wr hl hd hW hF => ?_);have et1 := hF.old 1 (by kernel_rfl);simp [Act.eval] at et1;exact ⟨hW, _, by go_simp, rfl⟩
      · refine gP_ rfl (sP_ fun sg ly a wr hl hd hW hF => ?_);simp [Region.binds] at hd;have et7 := hF.new 2 7 (by simp [hd]) rfl;simp [RiV, Act.eval] at et7;have et8 := hF.new 3 8 (by simp [hd]) rfl;simp [RiV, Act.eval] at et8;exact ⟨hW, _, by go_simp, rfl⟩
      · refine gP_ rfl (sC_ fun sg ly a wr hl hd hW hF => ?_);simp [Region.binds] at hd;have et6 := hF.new 1 6 (by simp [hd]) rfl;simp [RiV, Act.eval] at et6;have et9 := hF.new 4 9 (by simp [hd]) rfl;simp [RiV, Act.eval] at et9;refine ⟨89, #[.int .i64 s.1, .int .i64 0, .int .i64 100], by go_simp, ?_⟩;refine (H.out.1 wr).mono ?_;rintro e w2 ⟨rfl, rfl⟩;exact ⟨_, (), rfl, hW, rfl, fun _ _ _ h => h⟩
      · refine gP_ rfl (sP_ fun sg ly a wr hl hd hW hF => ?_);simp [Region.binds] at hd;have et10 := hF.new 5 10 (by simp [hd]) rfl;simp [RiV, Act.eval] at et10;exact ⟨hW, _, by go_simp, rfl⟩
      · refine stepG_guard (fun sg ly a wr hl hd hW hF hw => ?_) (fun sg ly a wr hl hd hW hF hw => ⟨hW, trivial⟩);simp [Region.binds] at hd;obtain ⟨u, hu, hp⟩ := hF.vals 6 _ 11 (by simp [hd]) rfl rfl;simp [RiV] at hp;subst hp;simp [Region.wanted, yielded, hu] at hw
      · refine stepG_guard (fun sg ly a wr hl hd hW hF hw => ?_) (fun sg ly a wr hl hd hW hF hw => ⟨hW, trivial⟩);simp [Region.binds] at hd;obtain ⟨u, hu, hp⟩ := hF.vals 6 _ 11 (by simp [hd]) rfl rfl;simp [RiV] at hp;subst hp;simp [Region.wanted, yielded, hu] at hw
      · refine stepG_guard (fun sg ly a wr hl hd hW hF hw => ?_) (fun sg ly a wr hl hd hW hF hw => ⟨hW, trivial⟩);simp [Region.binds] at hd;obtain ⟨u, hu, hp⟩ := hF.vals 6 _ 11 (by simp [hd]) rfl rfl;simp [RiV] at hp;subst hp;simp [Region.wanted, yielded, hu] at hw
      · refine stepG_guard (fun sg ly a wr hl hd hW hF hw => ?_) (fun sg ly a wr hl hd hW hF hw => ⟨hW, trivial⟩);simp [Region.binds] at hd;obtain ⟨u, hu, hp⟩ := hF.vals 6 _ 11 (by simp [hd]) rfl rfl;simp [RiV] at hp;subst hp;simp [Region.wanted, yielded, hu] at hw
      · refine stepG_guard (fun sg ly a wr hl hd hW hF hw => ?_) (fun sg ly a wr hl hd hW hF hw => ⟨hW, trivial⟩);simp [Region.binds] at hd;obtain ⟨u, hu, hp⟩ := hF.vals 6 _ 11 (by simp [hd]) rfl rfl;simp [RiV] at hp;subst hp;simp [Region.wanted, yielded, hu] at hw
      · refine stepG_guard (fun sg ly a wr hl hd hW hF hw => ?_) (fun sg ly a wr hl hd hW hF hw => ⟨hW, trivial⟩);simp [Region.binds] at hd;obtain ⟨u, hu, hp⟩ := hF.vals 6 _ 11 (by simp [hd]) rfl rfl;simp [RiV] at hp;subst hp;simp [Region.wanted, yielded, hu] at hw
      · refine stepG_guard (fun sg ly a wr hl hd hW hF hw => ?_) (fun sg ly a wr hl hd hW hF hw => ⟨hW, trivial⟩);simp [Region.binds] at hd;obtain ⟨u, hu, hp⟩ := hF.vals 6 _ 11 (by simp [hd]) rfl rfl;simp [RiV] at hp;subst hp;simp [Region.wanted, yielded, hu] at hw
      · refine stepG_guard (fun sg ly a wr hl hd hW hF hw => ?_) (fun sg ly a wr hl hd hW hF hw => ⟨hW, trivial⟩);simp [Region.binds] at hd;obtain ⟨u, hu, hp⟩ := hF.vals 6 _ 11 (by simp [hd]) rfl rfl;simp [RiV] at hp;subst hp;simp [Region.wanted, yielded, hu] at hw
      · refine gP_ rfl (sP_ fun sg ly a wr hl hd hW hF => ?_);simp [Region.binds] at hd;have et11 := hF.new 6 11 (by simp [hd]) rfl;simp [RiV, Act.eval] at et11;exact ⟨hW, _, by go_simp, rfl⟩
      · refine gP_ rfl (sP_ fun sg ly a wr hl hd hW hF => ?_);simp [Region.binds] at hd;have et20 := hF.new 15 20 (by simp [hd]) rfl;simp [RiV, Act.eval] at et20;exact ⟨hW, _, by go_simp, rfl⟩
    intro sg a w5 hW hF;have e4 := hF.new 16 4 (by decide) rfl;obtain ⟨f, hf, rfl⟩ := hF.lit;rw [← hf] at e4;simp only [RiV] at e4;have HB := Lib.hid hW;clear hf hF hW;simp only [List.filterMap, List.foldl, List.setIfInBounds_toArray, List.set_cons_succ, List.set_cons_zero, e4];clear e4;go_wp2_with fail
    go_ret;exact ⟨rfl, H.out.2.2.trans (HB.out.mono H.out.2.2.size)⟩
  · go_enter Try.func77, Try.ntmps77
    go_upto_region 1 with fail
    rw [← hW, ← hib];clear hW hib
    go_region_held3 (fun w' => Below W.heap.size W w') (first | exact (Below.refl _ _).drew | assumption)
      (first
        | (go_at_call 90
           have bb := B2;clear bb;refine (most_any _).mono ?_;rintro e w4 ⟨rfl, b4⟩;have B4 : Below W.heap.size W w4 := B2.trans (b4.mono B2.size);clear b4)
        | (go_at_call 90
           refine (most_any _).mono ?_;rintro e w2 ⟨rfl, b2⟩;have B2 : Below W.heap.size W w2 := (Below.refl _ _).drew.trans b2;clear b2)
        | (go_at_call 89
           have bb := B4;clear bb;refine (H.out.2.1 _).mono ?_;rintro e w5 ⟨rfl, rfl⟩)
        | (go_at_call 89
           refine (H.out.1 _).mono ?_;rintro e w3 ⟨rfl, rfl⟩)
        | fail)
    have HB := Lib.hid B4;clear B2 B4;go_wp2_with fail
    go_ret;exact ⟨by simp, H.out.2.2.trans (HB.out.mono H.out.2.2.size)⟩
theorem right1_any (s : Int × Int) (w : World) :
    Calls Try.prog 77 #[.agg #[.int .i64 s.1, .int .i64 s.2], .int .i64 1] w fun e w' => e = .returned (.bool (spanOk s 400)) ∧ Below w.heap.size w w' := by
  obtain ⟨W, hW⟩ : ∃ W, W = w.alloc (.cells #[.int .i64 s.1, .int .i64 s.2] 33) := ⟨_, rfl⟩;obtain ⟨ib, hib⟩ : ∃ b, b = w.heap.size := ⟨_, rfl⟩;have hh : W.heap[ib]? = some (.cells #[.int .i64 s.1, .int .i64 s.2] 33 (0, 0)) := by rw [hW, hib]; exact heap_alloc_new _ _
  have bW : Below w.heap.size w W := by rw [hW]; exact (Below.refl _ _).alloc (Nat.le_refl _) _
  have c0 := (cOH hh 0).trans rfl;have c1 := (cOH hh 1).trans rfl;have zb := hL_ hh;have KC : ∀ {b o : Nat} {u : Value}, W.cell? ⟨b, o, none⟩ = some u → ∀ w', Below W.heap.size W w' → w'.cell? ⟨b, o, none⟩ = some u := fun h w' hb => (hb.cell (World.block_lt_of_cell? W _ h)).trans h;have c0' := KC c0;have c1' := KC c1;clear KC hh;obtain ⟨r1, hr1⟩ : ∃ r, r = within s.1 0 400 := ⟨_, rfl⟩;obtain ⟨r2, hr2⟩ : ∃ r, r = within s.2 s.1 400 := ⟨_, rfl⟩;have hs : spanOk s 400 = (r1 && r2) := by rw [hr1, hr2]; rfl
  rw [hs];have k1 : ∀ wx, Calls Try.prog 89 #[.int .i64 s.1, .int .i64 0, .int .i64 400] wx fun e w' => e = .returned (.bool r1) ∧ wx = w' := fun wx => by rw [hr1]; exact icein_any _ _ _ wx
  have k2 : ∀ wx, Calls Try.prog 89 #[.int .i64 s.2, .int .i64 s.1, .int .i64 400] wx fun e w' => e = .returned (.bool r2) ∧ wx = w' := fun wx => by rw [hr2]; exact icein_any _ _ _ wx
  have H := Lib.hid (And.intro k1 (And.intro k2 bW));clear hr1 hr2 hs k1 k2 bW;have hx := fun w => (most_index w).1.2;cases r1
  · go_enter Try.func77, Try.ntmps77
    go_upto_region 1 with fail
    rw [← hW, ← hib];clear hW hib;refine wp_region_stepsG (σ := Unit) (by kernel_rfl) (by kernel_rfl) (fun _ jx vx _ => RiV s ib 1 400 jx vx) (fun _ ly wx => Below W.heap.size W wx) () ?_ ?_ ?_
    · exact (Below.refl _ _).drew
    · simp only [AllFrom, Nat.zero_add, Nat.reduceAdd];refine ⟨?_, ?_, ?_, ?_, ?_, ?_, ?_, ?_, ?_, ?_, ?_, ?_, ?_, ?_, ?_, ?_, ?_, trivial⟩
      · refine gP_ rfl (sP_ fun sg ly a wr hl hd hW hF => ?_);have et2 := hF.old 2 (by kernel_rfl);simp [Act.eval] at et2;exact ⟨hW, _, by go_simp, rfl⟩
      · refine gP_ rfl (sP_ fun sg ly a wr hl hd hW hF => ?_);simp [Region.binds] at hd;have et5 := hF.new 0 5 (by simp [hd]) rfl;simp [RiV, Act.eval] at et5;have k0 := c0' _ hW;exact ⟨hW, _, by go_simp, rfl⟩
      · refine gP_ rfl (sC_ fun sg ly a wr hl hd hW hF => ?_);refine ⟨90, #[], by go_simp, ?_⟩;refine (most_any wr).mono ?_;rintro e w2 ⟨rfl, b2⟩;exact ⟨_, (), rfl, hW.trans (b2.mono hW.size), rfl, fun _ _ _ h => h⟩
      · refine gP_ rfl (sP_ fun sg ly a wr hl hd hW hF => ?_);have et1 := hF.old 1 (by kernel_rfl);simp [Act.eval] at et1;exact ⟨hW, _, by go_simp, rfl⟩
      · refine gP_ rfl (sP_ fun sg ly a wr hl hd hW hF => ?_);simp [Region.binds] at hd;have et7 := hF.new 2 7 (by simp [hd]) rfl;simp [RiV, Act.eval] at et7;have et8 := hF.new 3 8 (by simp [hd]) rfl;simp [RiV, Act.eval] at et8;exact ⟨hW, _, by go_simp, rfl⟩
      · refine gP_ rfl (sC_ fun sg ly a wr hl hd hW hF => ?_);simp [Region.binds] at hd;have et6 := hF.new 1 6 (by simp [hd]) rfl;simp [RiV, Act.eval] at et6;have et9 := hF.new 4 9 (by simp [hd]) rfl;simp [RiV, Act.eval] at et9;refine ⟨89, #[.int .i64 s.1, .int .i64 0, .int .i64 400], by go_simp, ?_⟩;refine (H.out.1 wr).mono ?_;rintro e w2 ⟨rfl, rfl⟩;exact ⟨_, (), rfl, hW, rfl, fun _ _ _ h => h⟩
      · refine gP_ rfl (sP_ fun sg ly a wr hl hd hW hF => ?_);simp [Region.binds] at hd;have et10 := hF.new 5 10 (by simp [hd]) rfl;simp [RiV, Act.eval] at et10;exact ⟨hW, _, by go_simp, rfl⟩
      · refine stepG_guard (fun sg ly a wr hl hd hW hF hw => ?_) (fun sg ly a wr hl hd hW hF hw => ⟨hW, trivial⟩);simp [Region.binds] at hd;obtain ⟨u, hu, hp⟩ := hF.vals 6 _ 11 (by simp [hd]) rfl rfl;simp [RiV] at hp;subst hp;simp [Region.wanted, yielded, hu] at hw
      · refine stepG_guard (fun sg ly a wr hl hd hW hF hw => ?_) (fun sg ly a wr hl hd hW hF hw => ⟨hW, trivial⟩);simp [Region.binds] at hd;obtain ⟨u, hu, hp⟩ := hF.vals 6 _ 11 (by simp [hd]) rfl rfl;simp [RiV] at hp;subst hp;simp [Region.wanted, yielded, hu] at hw
      · refine stepG_guard (fun sg ly a wr hl hd hW hF hw => ?_) (fun sg ly a wr hl hd hW hF hw => ⟨hW, trivial⟩);simp [Region.binds] at hd;obtain ⟨u, hu, hp⟩ := hF.vals 6 _ 11 (by simp [hd]) rfl rfl;simp [RiV] at hp;subst hp;simp [Region.wanted, yielded, hu] at hw
      · refine stepG_guard (fun sg ly a wr hl hd hW hF hw => ?_) (fun sg ly a wr hl hd hW hF hw => ⟨hW, trivial⟩);simp [Region.binds] at hd;obtain ⟨u, hu, hp⟩ := hF.vals 6 _ 11 (by simp [hd]) rfl rfl;simp [RiV] at hp;subst hp;simp [Region.wanted, yielded, hu] at hw
      · refine stepG_guard (fun sg ly a wr hl hd hW hF hw => ?_) (fun sg ly a wr hl hd hW hF hw => ⟨hW, trivial⟩);simp [Region.binds] at hd;obtain ⟨u, hu, hp⟩ := hF.vals 6 _ 11 (by simp [hd]) rfl rfl;simp [RiV] at hp;subst hp;simp [Region.wanted, yielded, hu] at hw
      · refine stepG_guard (fun sg ly a wr hl hd hW hF hw => ?_) (fun sg ly a wr hl hd hW hF hw => ⟨hW, trivial⟩);simp [Region.binds] at hd;obtain ⟨u, hu, hp⟩ := hF.vals 6 _ 11 (by simp [hd]) rfl rfl;simp [RiV] at hp;subst hp;simp [Region.wanted, yielded, hu] at hw
      · refine stepG_guard (fun sg ly a wr hl hd hW hF hw => ?_) (fun sg ly a wr hl hd hW hF hw => ⟨hW, trivial⟩);simp [Region.binds] at hd;obtain ⟨u, hu, hp⟩ := hF.vals 6 _ 11 (by simp [hd]) rfl rfl;simp [RiV] at hp;subst hp;simp [Region.wanted, yielded, hu] at hw
      · refine stepG_guard (fun sg ly a wr hl hd hW hF hw => ?_) (fun sg ly a wr hl hd hW hF hw => ⟨hW, trivial⟩);simp [Region.binds] at hd;obtain ⟨u, hu, hp⟩ := hF.vals 6 _ 11 (by simp [hd]) rfl rfl;simp [RiV] at hp;subst hp;simp [Region.wanted, yielded, hu] at hw
      · refine gP_ rfl (sP_ fun sg ly a wr hl hd hW hF => ?_);simp [Region.binds] at hd;have et11 := hF.new 6 11 (by simp [hd]) rfl;simp [RiV, Act.eval] at et11;exact ⟨hW, _, by go_simp, rfl⟩
      · refine gP_ rfl (sP_ fun sg ly a wr hl hd hW hF => ?_);simp [Region.binds] at hd;have et20 := hF.new 15 20 (by simp [hd]) rfl;simp [RiV, Act.eval] at et20;exact ⟨hW, _, by go_simp, rfl⟩
    intro sg a w5 hW hF;have e4 := hF.new 16 4 (by decide) rfl;obtain ⟨f, hf, rfl⟩ := hF.lit;rw [← hf] at e4;simp only [RiV] at e4;have HB := Lib.hid hW;clear hf hF hW;simp only [List.filterMap, List.foldl, List.setIfInBounds_toArray, List.set_cons_succ, List.set_cons_zero, e4];clear e4;go_wp2_with fail
    go_ret;exact ⟨rfl, H.out.2.2.trans (HB.out.mono H.out.2.2.size)⟩
  · go_enter Try.func77, Try.ntmps77
    go_upto_region 1 with fail
    rw [← hW, ← hib];clear hW hib
    go_region_held3 (fun w' => Below W.heap.size W w') (first | exact (Below.refl _ _).drew | assumption)
      (first
        | (go_at_call 90
           have bb := B2;clear bb;refine (most_any _).mono ?_;rintro e w4 ⟨rfl, b4⟩;have B4 : Below W.heap.size W w4 := B2.trans (b4.mono B2.size);clear b4)
        | (go_at_call 90
           refine (most_any _).mono ?_;rintro e w2 ⟨rfl, b2⟩;have B2 : Below W.heap.size W w2 := (Below.refl _ _).drew.trans b2;clear b2)
        | (go_at_call 89
           have bb := B4;clear bb;refine (H.out.2.1 _).mono ?_;rintro e w5 ⟨rfl, rfl⟩)
        | (go_at_call 89
           refine (H.out.1 _).mono ?_;rintro e w3 ⟨rfl, rfl⟩)
        | fail)
    have HB := Lib.hid B4;clear B2 B4;go_wp2_with fail
    go_ret;exact ⟨by simp, H.out.2.2.trans (HB.out.mono H.out.2.2.size)⟩
theorem right2_any (s : Int × Int) (w : World) :
    Calls Try.prog 77 #[.agg #[.int .i64 s.1, .int .i64 s.2], .int .i64 2] w fun e w' => e = .returned (.bool (spanOk s 100)) ∧ Below w.heap.size w w' := by
  obtain ⟨W, hW⟩ : ∃ W, W = w.alloc (.cells #[.int .i64 s.1, .int .i64 s.2] 33) := ⟨_, rfl⟩;obtain ⟨ib, hib⟩ : ∃ b, b = w.heap.size := ⟨_, rfl⟩;have hh : W.heap[ib]? = some (.cells #[.int .i64 s.1, .int .i64 s.2] 33 (0, 0)) := by rw [hW, hib]; exact heap_alloc_new _ _
  have bW : Below w.heap.size w W := by rw [hW]; exact (Below.refl _ _).alloc (Nat.le_refl _) _
  have c0 := (cOH hh 0).trans rfl;have c1 := (cOH hh 1).trans rfl;have zb := hL_ hh;have KC : ∀ {b o : Nat} {u : Value}, W.cell? ⟨b, o, none⟩ = some u → ∀ w', Below W.heap.size W w' → w'.cell? ⟨b, o, none⟩ = some u := fun h w' hb => (hb.cell (World.block_lt_of_cell? W _ h)).trans h;have c0' := KC c0;have c1' := KC c1;clear KC hh;obtain ⟨r1, hr1⟩ : ∃ r, r = within s.1 0 100 := ⟨_, rfl⟩;obtain ⟨r2, hr2⟩ : ∃ r, r = within s.2 s.1 100 := ⟨_, rfl⟩;have hs : spanOk s 100 = (r1 && r2) := by rw [hr1, hr2]; rfl
  rw [hs];have k1 : ∀ wx, Calls Try.prog 89 #[.int .i64 s.1, .int .i64 0, .int .i64 100] wx fun e w' => e = .returned (.bool r1) ∧ wx = w' := fun wx => by rw [hr1]; exact icein_any _ _ _ wx
  have k2 : ∀ wx, Calls Try.prog 89 #[.int .i64 s.2, .int .i64 s.1, .int .i64 100] wx fun e w' => e = .returned (.bool r2) ∧ wx = w' := fun wx => by rw [hr2]; exact icein_any _ _ _ wx
  have H := Lib.hid (And.intro k1 (And.intro k2 bW));clear hr1 hr2 hs k1 k2 bW;have hx := fun w => (most_index w).2.1;cases r1
  · go_enter Try.func77, Try.ntmps77
    go_upto_region 1 with fail
    rw [← hW, ← hib];clear hW hib;refine wp_region_stepsG (σ := Unit) (by kernel_rfl) (by kernel_rfl) (fun _ jx vx _ => RiV s ib 2 100 jx vx) (fun _ ly wx => Below W.heap.size W wx) () ?_ ?_ ?_
    · exact (Below.refl _ _).drew
    · simp only [AllFrom, Nat.zero_add, Nat.reduceAdd];refine ⟨?_, ?_, ?_, ?_, ?_, ?_, ?_, ?_, ?_, ?_, ?_, ?_, ?_, ?_, ?_, ?_, ?_, trivial⟩
      · refine gP_ rfl (sP_ fun sg ly a wr hl hd hW hF => ?_);have et2 := hF.old 2 (by kernel_rfl);simp [Act.eval] at et2;exact ⟨hW, _, by go_simp, rfl⟩
      · refine gP_ rfl (sP_ fun sg ly a wr hl hd hW hF => ?_);simp [Region.binds] at hd;have et5 := hF.new 0 5 (by simp [hd]) rfl;simp [RiV, Act.eval] at et5;have k0 := c0' _ hW;exact ⟨hW, _, by go_simp, rfl⟩
      · refine gP_ rfl (sC_ fun sg ly a wr hl hd hW hF => ?_);refine ⟨90, #[], by go_simp, ?_⟩;refine (most_any wr).mono ?_;rintro e w2 ⟨rfl, b2⟩;exact ⟨_, (), rfl, hW.trans (b2.mono hW.size), rfl, fun _ _ _ h => h⟩
      · refine gP_ rfl (sP_ fun sg ly a wr hl hd hW hF => ?_);have et1 := hF.old 1 (by kernel_rfl);simp [Act.eval] at et1;exact ⟨hW, _, by go_simp, rfl⟩
      · refine gP_ rfl (sP_ fun sg ly a wr hl hd hW hF => ?_);simp [Region.binds] at hd;have et7 := hF.new 2 7 (by simp [hd]) rfl;simp [RiV, Act.eval] at et7;have et8 := hF.new 3 8 (by simp [hd]) rfl;simp [RiV, Act.eval] at et8;exact ⟨hW, _, by go_simp, rfl⟩
      · refine gP_ rfl (sC_ fun sg ly a wr hl hd hW hF => ?_);simp [Region.binds] at hd;have et6 := hF.new 1 6 (by simp [hd]) rfl;simp [RiV, Act.eval] at et6;have et9 := hF.new 4 9 (by simp [hd]) rfl;simp [RiV, Act.eval] at et9;refine ⟨89, #[.int .i64 s.1, .int .i64 0, .int .i64 100], by go_simp, ?_⟩;refine (H.out.1 wr).mono ?_;rintro e w2 ⟨rfl, rfl⟩;exact ⟨_, (), rfl, hW, rfl, fun _ _ _ h => h⟩
      · refine gP_ rfl (sP_ fun sg ly a wr hl hd hW hF => ?_);simp [Region.binds] at hd;have et10 := hF.new 5 10 (by simp [hd]) rfl;simp [RiV, Act.eval] at et10;exact ⟨hW, _, by go_simp, rfl⟩
      · refine stepG_guard (fun sg ly a wr hl hd hW hF hw => ?_) (fun sg ly a wr hl hd hW hF hw => ⟨hW, trivial⟩);simp [Region.binds] at hd;obtain ⟨u, hu, hp⟩ := hF.vals 6 _ 11 (by simp [hd]) rfl rfl;simp [RiV] at hp;subst hp;simp [Region.wanted, yielded, hu] at hw
      · refine stepG_guard (fun sg ly a wr hl hd hW hF hw => ?_) (fun sg ly a wr hl hd hW hF hw => ⟨hW, trivial⟩);simp [Region.binds] at hd;obtain ⟨u, hu, hp⟩ := hF.vals 6 _ 11 (by simp [hd]) rfl rfl;simp [RiV] at hp;subst hp;simp [Region.wanted, yielded, hu] at hw
      · refine stepG_guard (fun sg ly a wr hl hd hW hF hw => ?_) (fun sg ly a wr hl hd hW hF hw => ⟨hW, trivial⟩);simp [Region.binds] at hd;obtain ⟨u, hu, hp⟩ := hF.vals 6 _ 11 (by simp [hd]) rfl rfl;simp [RiV] at hp;subst hp;simp [Region.wanted, yielded, hu] at hw
      · refine stepG_guard (fun sg ly a wr hl hd hW hF hw => ?_) (fun sg ly a wr hl hd hW hF hw => ⟨hW, trivial⟩);simp [Region.binds] at hd;obtain ⟨u, hu, hp⟩ := hF.vals 6 _ 11 (by simp [hd]) rfl rfl;simp [RiV] at hp;subst hp;simp [Region.wanted, yielded, hu] at hw
      · refine stepG_guard (fun sg ly a wr hl hd hW hF hw => ?_) (fun sg ly a wr hl hd hW hF hw => ⟨hW, trivial⟩);simp [Region.binds] at hd;obtain ⟨u, hu, hp⟩ := hF.vals 6 _ 11 (by simp [hd]) rfl rfl;simp [RiV] at hp;subst hp;simp [Region.wanted, yielded, hu] at hw
      · refine stepG_guard (fun sg ly a wr hl hd hW hF hw => ?_) (fun sg ly a wr hl hd hW hF hw => ⟨hW, trivial⟩);simp [Region.binds] at hd;obtain ⟨u, hu, hp⟩ := hF.vals 6 _ 11 (by simp [hd]) rfl rfl;simp [RiV] at hp;subst hp;simp [Region.wanted, yielded, hu] at hw
      · refine stepG_guard (fun sg ly a wr hl hd hW hF hw => ?_) (fun sg ly a wr hl hd hW hF hw => ⟨hW, trivial⟩);simp [Region.binds] at hd;obtain ⟨u, hu, hp⟩ := hF.vals 6 _ 11 (by simp [hd]) rfl rfl;simp [RiV] at hp;subst hp;simp [Region.wanted, yielded, hu] at hw
      · refine stepG_guard (fun sg ly a wr hl hd hW hF hw => ?_) (fun sg ly a wr hl hd hW hF hw => ⟨hW, trivial⟩);simp [Region.binds] at hd;obtain ⟨u, hu, hp⟩ := hF.vals 6 _ 11 (by simp [hd]) rfl rfl;simp [RiV] at hp;subst hp;simp [Region.wanted, yielded, hu] at hw
      · refine gP_ rfl (sP_ fun sg ly a wr hl hd hW hF => ?_);simp [Region.binds] at hd;have et11 := hF.new 6 11 (by simp [hd]) rfl;simp [RiV, Act.eval] at et11;exact ⟨hW, _, by go_simp, rfl⟩
      · refine gP_ rfl (sP_ fun sg ly a wr hl hd hW hF => ?_);simp [Region.binds] at hd;have et20 := hF.new 15 20 (by simp [hd]) rfl;simp [RiV, Act.eval] at et20;exact ⟨hW, _, by go_simp, rfl⟩
    intro sg a w5 hW hF;have e4 := hF.new 16 4 (by decide) rfl;obtain ⟨f, hf, rfl⟩ := hF.lit;rw [← hf] at e4;simp only [RiV] at e4;have HB := Lib.hid hW;clear hf hF hW;simp only [List.filterMap, List.foldl, List.setIfInBounds_toArray, List.set_cons_succ, List.set_cons_zero, e4];clear e4;go_wp2_with fail
    go_ret;exact ⟨rfl, H.out.2.2.trans (HB.out.mono H.out.2.2.size)⟩
  · go_enter Try.func77, Try.ntmps77
    go_upto_region 1 with fail
    rw [← hW, ← hib];clear hW hib
    go_region_held3 (fun w' => Below W.heap.size W w') (first | exact (Below.refl _ _).drew | assumption)
      (first
        | (go_at_call 90
           have bb := B2;clear bb;refine (most_any _).mono ?_;rintro e w4 ⟨rfl, b4⟩;have B4 : Below W.heap.size W w4 := B2.trans (b4.mono B2.size);clear b4)
        | (go_at_call 90
           refine (most_any _).mono ?_;rintro e w2 ⟨rfl, b2⟩;have B2 : Below W.heap.size W w2 := (Below.refl _ _).drew.trans b2;clear b2)
        | (go_at_call 89
           have bb := B4;clear bb;refine (H.out.2.1 _).mono ?_;rintro e w5 ⟨rfl, rfl⟩)
        | (go_at_call 89
           refine (H.out.1 _).mono ?_;rintro e w3 ⟨rfl, rfl⟩)
        | fail)
    have HB := Lib.hid B4;clear B2 B4;go_wp2_with fail
    go_ret;exact ⟨by simp, H.out.2.2.trans (HB.out.mono H.out.2.2.size)⟩
theorem right3_any (s : Int × Int) (w : World) :
    Calls Try.prog 77 #[.agg #[.int .i64 s.1, .int .i64 s.2], .int .i64 3] w fun e w' => e = .returned (.bool (spanOk s 3)) ∧ Below w.heap.size w w' := by
  obtain ⟨W, hW⟩ : ∃ W, W = w.alloc (.cells #[.int .i64 s.1, .int .i64 s.2] 33) := ⟨_, rfl⟩;obtain ⟨ib, hib⟩ : ∃ b, b = w.heap.size := ⟨_, rfl⟩;have hh : W.heap[ib]? = some (.cells #[.int .i64 s.1, .int .i64 s.2] 33 (0, 0)) := by rw [hW, hib]; exact heap_alloc_new _ _
  have bW : Below w.heap.size w W := by rw [hW]; exact (Below.refl _ _).alloc (Nat.le_refl _) _
  have c0 := (cOH hh 0).trans rfl;have c1 := (cOH hh 1).trans rfl;have zb := hL_ hh;have KC : ∀ {b o : Nat} {u : Value}, W.cell? ⟨b, o, none⟩ = some u → ∀ w', Below W.heap.size W w' → w'.cell? ⟨b, o, none⟩ = some u := fun h w' hb => (hb.cell (World.block_lt_of_cell? W _ h)).trans h;have c0' := KC c0;have c1' := KC c1;clear KC hh;obtain ⟨r1, hr1⟩ : ∃ r, r = within s.1 0 3 := ⟨_, rfl⟩;obtain ⟨r2, hr2⟩ : ∃ r, r = within s.2 s.1 3 := ⟨_, rfl⟩;have hs : spanOk s 3 = (r1 && r2) := by rw [hr1, hr2]; rfl
  rw [hs];have k1 : ∀ wx, Calls Try.prog 89 #[.int .i64 s.1, .int .i64 0, .int .i64 3] wx fun e w' => e = .returned (.bool r1) ∧ wx = w' := fun wx => by rw [hr1]; exact icein_any _ _ _ wx
  have k2 : ∀ wx, Calls Try.prog 89 #[.int .i64 s.2, .int .i64 s.1, .int .i64 3] wx fun e w' => e = .returned (.bool r2) ∧ wx = w' := fun wx => by rw [hr2]; exact icein_any _ _ _ wx
  have H := Lib.hid (And.intro k1 (And.intro k2 bW));clear hr1 hr2 hs k1 k2 bW;have hx := fun w => (most_index w).2.2;cases r1
  · go_enter Try.func77, Try.ntmps77
    go_upto_region 1 with fail
    rw [← hW, ← hib];clear hW hib;refine wp_region_stepsG (σ := Unit) (by kernel_rfl) (by kernel_rfl) (fun _ jx vx _ => RiV s ib 3 3 jx vx) (fun _ ly wx => Below W.heap.size W wx) () ?_ ?_ ?_
    · exact (Below.refl _ _).drew
    · simp only [AllFrom, Nat.zero_add, Nat.reduceAdd];refine ⟨?_, ?_, ?_, ?_, ?_, ?_, ?_, ?_, ?_, ?_, ?_, ?_, ?_, ?_, ?_, ?_, ?_, trivial⟩
      · refine gP_ rfl (sP_ fun sg ly a wr hl hd hW hF => ?_);have et2 := hF.old 2 (by kernel_rfl);simp [Act.eval] at et2;exact ⟨hW, _, by go_simp, rfl⟩
      · refine gP_ rfl (sP_ fun sg ly a wr hl hd hW hF => ?_);simp [Region.binds] at hd;have et5 := hF.new 0 5 (by simp [hd]) rfl;simp [RiV, Act.eval] at et5;have k0 := c0' _ hW;exact ⟨hW, _, by go_simp, rfl⟩
      · refine gP_ rfl (sC_ fun sg ly a wr hl hd hW hF => ?_);refine ⟨90, #[], by go_simp, ?_⟩;refine (most_any wr).mono ?_;rintro e w2 ⟨rfl, b2⟩;exact ⟨_, (), rfl, hW.trans (b2.mono hW.size), rfl, fun _ _ _ h => h⟩
      · refine gP_ rfl (sP_ fun sg ly a wr hl hd hW hF => ?_);have et1 := hF.old 1 (by kernel_rfl);simp [Act.eval] at et1;exact ⟨hW, _, by go_simp, rfl⟩
      · refine gP_ rfl (sP_ fun sg ly a wr hl hd hW hF => ?_);simp [Region.binds] at hd;have et7 := hF.new 2 7 (by simp [hd]) rfl;simp [RiV, Act.eval] at et7;have et8 := hF.new 3 8 (by simp [hd]) rfl;simp [RiV, Act.eval] at et8;exact ⟨hW, _, by go_simp, rfl⟩
      · refine gP_ rfl (sC_ fun sg ly a wr hl hd hW hF => ?_);simp [Region.binds] at hd;have et6 := hF.new 1 6 (by simp [hd]) rfl;simp [RiV, Act.eval] at et6;have et9 := hF.new 4 9 (by simp [hd]) rfl;simp [RiV, Act.eval] at et9;refine ⟨89, #[.int .i64 s.1, .int .i64 0, .int .i64 3], by go_simp, ?_⟩;refine (H.out.1 wr).mono ?_;rintro e w2 ⟨rfl, rfl⟩;exact ⟨_, (), rfl, hW, rfl, fun _ _ _ h => h⟩
      · refine gP_ rfl (sP_ fun sg ly a wr hl hd hW hF => ?_);simp [Region.binds] at hd;have et10 := hF.new 5 10 (by simp [hd]) rfl;simp [RiV, Act.eval] at et10;exact ⟨hW, _, by go_simp, rfl⟩
      · refine stepG_guard (fun sg ly a wr hl hd hW hF hw => ?_) (fun sg ly a wr hl hd hW hF hw => ⟨hW, trivial⟩);simp [Region.binds] at hd;obtain ⟨u, hu, hp⟩ := hF.vals 6 _ 11 (by simp [hd]) rfl rfl;simp [RiV] at hp;subst hp;simp [Region.wanted, yielded, hu] at hw
      · refine stepG_guard (fun sg ly a wr hl hd hW hF hw => ?_) (fun sg ly a wr hl hd hW hF hw => ⟨hW, trivial⟩);simp [Region.binds] at hd;obtain ⟨u, hu, hp⟩ := hF.vals 6 _ 11 (by simp [hd]) rfl rfl;simp [RiV] at hp;subst hp;simp [Region.wanted, yielded, hu] at hw
      · refine stepG_guard (fun sg ly a wr hl hd hW hF hw => ?_) (fun sg ly a wr hl hd hW hF hw => ⟨hW, trivial⟩);simp [Region.binds] at hd;obtain ⟨u, hu, hp⟩ := hF.vals 6 _ 11 (by simp [hd]) rfl rfl;simp [RiV] at hp;subst hp;simp [Region.wanted, yielded, hu] at hw
      · refine stepG_guard (fun sg ly a wr hl hd hW hF hw => ?_) (fun sg ly a wr hl hd hW hF hw => ⟨hW, trivial⟩);simp [Region.binds] at hd;obtain ⟨u, hu, hp⟩ := hF.vals 6 _ 11 (by simp [hd]) rfl rfl;simp [RiV] at hp;subst hp;simp [Region.wanted, yielded, hu] at hw
      · refine stepG_guard (fun sg ly a wr hl hd hW hF hw => ?_) (fun sg ly a wr hl hd hW hF hw => ⟨hW, trivial⟩);simp [Region.binds] at hd;obtain ⟨u, hu, hp⟩ := hF.vals 6 _ 11 (by simp [hd]) rfl rfl;simp [RiV] at hp;subst hp;simp [Region.wanted, yielded, hu] at hw
      · refine stepG_guard (fun sg ly a wr hl hd hW hF hw => ?_) (fun sg ly a wr hl hd hW hF hw => ⟨hW, trivial⟩);simp [Region.binds] at hd;obtain ⟨u, hu, hp⟩ := hF.vals 6 _ 11 (by simp [hd]) rfl rfl;simp [RiV] at hp;subst hp;simp [Region.wanted, yielded, hu] at hw
      · refine stepG_guard (fun sg ly a wr hl hd hW hF hw => ?_) (fun sg ly a wr hl hd hW hF hw => ⟨hW, trivial⟩);simp [Region.binds] at hd;obtain ⟨u, hu, hp⟩ := hF.vals 6 _ 11 (by simp [hd]) rfl rfl;simp [RiV] at hp;subst hp;simp [Region.wanted, yielded, hu] at hw
      · refine stepG_guard (fun sg ly a wr hl hd hW hF hw => ?_) (fun sg ly a wr hl hd hW hF hw => ⟨hW, trivial⟩);simp [Region.binds] at hd;obtain ⟨u, hu, hp⟩ := hF.vals 6 _ 11 (by simp [hd]) rfl rfl;simp [RiV] at hp;subst hp;simp [Region.wanted, yielded, hu] at hw
      · refine gP_ rfl (sP_ fun sg ly a wr hl hd hW hF => ?_);simp [Region.binds] at hd;have et11 := hF.new 6 11 (by simp [hd]) rfl;simp [RiV, Act.eval] at et11;exact ⟨hW, _, by go_simp, rfl⟩
      · refine gP_ rfl (sP_ fun sg ly a wr hl hd hW hF => ?_);simp [Region.binds] at hd;have et20 := hF.new 15 20 (by simp [hd]) rfl;simp [RiV, Act.eval] at et20;exact ⟨hW, _, by go_simp, rfl⟩
    intro sg a w5 hW hF;have e4 := hF.new 16 4 (by decide) rfl;obtain ⟨f, hf, rfl⟩ := hF.lit;rw [← hf] at e4;simp only [RiV] at e4;have HB := Lib.hid hW;clear hf hF hW;simp only [List.filterMap, List.foldl, List.setIfInBounds_toArray, List.set_cons_succ, List.set_cons_zero, e4];clear e4;go_wp2_with fail
    go_ret;exact ⟨rfl, H.out.2.2.trans (HB.out.mono H.out.2.2.size)⟩
  · go_enter Try.func77, Try.ntmps77
    go_upto_region 1 with fail
    rw [← hW, ← hib];clear hW hib
    go_region_held3 (fun w' => Below W.heap.size W w') (first | exact (Below.refl _ _).drew | assumption)
      (first
        | (go_at_call 90
           have bb := B2;clear bb;refine (most_any _).mono ?_;rintro e w4 ⟨rfl, b4⟩;have B4 : Below W.heap.size W w4 := B2.trans (b4.mono B2.size);clear b4)
        | (go_at_call 90
           refine (most_any _).mono ?_;rintro e w2 ⟨rfl, b2⟩;have B2 : Below W.heap.size W w2 := (Below.refl _ _).drew.trans b2;clear b2)
        | (go_at_call 89
           have bb := B4;clear bb;refine (H.out.2.1 _).mono ?_;rintro e w5 ⟨rfl, rfl⟩)
        | (go_at_call 89
           refine (H.out.1 _).mono ?_;rintro e w3 ⟨rfl, rfl⟩)
        | fail)
    have HB := Lib.hid B4;clear B2 B4;go_wp2_with fail
    go_ret;exact ⟨by simp, H.out.2.2.trans (HB.out.mono H.out.2.2.size)⟩
structure Cel where
  a0 : Int
  a1 : Int
  b0 : Int
  b1 : Int
  c0 : Int
  c1 : Int
  d0 : Int
  d1 : Int
deriving DecidableEq, Inhabited
abbrev celA (x : Cel) : Array Value := #[.int .i64 x.a0, .int .i64 x.a1, .int .i64 x.b0, .int .i64 x.b1, .int .i64 x.c0, .int .i64 x.c1, .int .i64 x.d0, .int .i64 x.d1]
def celOk (x : Cel) : Bool := spanOk (x.a0, x.a1) 100 && spanOk (x.b0, x.b1) 400 && spanOk (x.c0, x.c1) 100 && spanOk (x.d0, x.d1) 3
def celN (x : Cel) : Nat → Bool
  | 0 => spanOk (x.a0, x.a1) 100
  | 1 => spanOk (x.b0, x.b1) 400
  | 2 => spanOk (x.c0, x.c1) 100
  | _ => spanOk (x.d0, x.d1) 3
def celE (x : Cel) : Int := if celOk x then 0 else 20
theorem spans_any (x : Cel) (w : World) :
    Calls Try.prog 74 #[.agg (celA x)] w fun e w' => e = .returned (.agg (celA x)) ∧ Below w.heap.size w w' := by
  go_enter Try.func74, Try.ntmps74
  go_wp2_with fail
  exact bodyPost_ret (v := .agg (celA x)) (by simp [results, Try.results74, go_sem]) rfl ⟨rfl, ((Below.refl _ _).alloc (Nat.le_refl _) _).alloc (by simp) _⟩
theorem ckcel_any (x : Cel) (b : Nat) (k : Nat) (hk : k < 4) (w : World) (hb : w.heap[b]? = some (.cells (celA x) 156 (0, 0))) :
    Calls Try.prog 76 #[.int .i64 k, .pointer (some ⟨b, 0, none⟩)] w fun e w' => e = .returned (.bool (celN x k)) ∧ Below w.heap.size w w' := by
  have c0 := (cOH hb 0).trans rfl;have c1 := (cOH hb 1).trans rfl;have c2 := (cOH hb 2).trans rfl;have c3 := (cOH hb 3).trans rfl;have c4 := (cOH hb 4).trans rfl;have c5 := (cOH hb 5).trans rfl;have c6 := (cOH hb 6).trans rfl;have c7 := (cOH hb 7).trans rfl;have zb := hL_ hb;clear hb;rcases (by omega : k = 0 ∨ k = 1 ∨ k = 2 ∨ k = 3) with rfl | rfl | rfl | rfl
  · have H := Lib.hid (right0_any (x.a0, x.a1) w);show Calls Try.prog 76 #[.int .i64 0, .pointer (some ⟨b, 0, none⟩)] w _
    go_enter Try.func76, Try.ntmps76
    go_wp2_with (go_at_call 77; refine H.out.mono ?_; rintro e w2 ⟨rfl, b2⟩)
    go_ret;exact ⟨rfl, b2⟩
  · have H := Lib.hid (right1_any (x.b0, x.b1) w);show Calls Try.prog 76 #[.int .i64 1, .pointer (some ⟨b, 0, none⟩)] w _
    go_enter Try.func76, Try.ntmps76
    go_wp2_with (go_at_call 77; refine H.out.mono ?_; rintro e w2 ⟨rfl, b2⟩)
    go_ret;exact ⟨rfl, b2⟩
  · have H := Lib.hid (right2_any (x.c0, x.c1) w);show Calls Try.prog 76 #[.int .i64 2, .pointer (some ⟨b, 0, none⟩)] w _
    go_enter Try.func76, Try.ntmps76
    go_wp2_with (go_at_call 77; refine H.out.mono ?_; rintro e w2 ⟨rfl, b2⟩)
    go_ret;exact ⟨rfl, b2⟩
  · have H := Lib.hid (right3_any (x.d0, x.d1) w);show Calls Try.prog 76 #[.int .i64 3, .pointer (some ⟨b, 0, none⟩)] w _
    go_enter Try.func76, Try.ntmps76
    go_wp2_with (go_at_call 77; refine H.out.mono ?_; rintro e w2 ⟨rfl, b2⟩)
    go_ret;exact ⟨rfl, b2⟩
theorem allCel_any (b : Nat) (g : Nat → Bool) (w : World) (hg : ∀ k : Nat, k < 4 → ∀ wx, Below w.heap.size w wx → Calls Try.prog 76 #[.int .i64 k, .pointer (some ⟨b, 0, none⟩)] wx fun e w' => e = .returned (.bool (g k)) ∧ Below wx.heap.size wx w') :
    Calls Try.prog 75 #[.func (.func 76) #[] #[.pointer (some ⟨b, 0, none⟩)]] w fun e w' => e = .returned (.bool (g 0 && g 1 && g 2 && g 3)) ∧ Below w.heap.size w w' := by
  have HG := Lib.hid hg;clear hg
  go_enter Try.func75, Try.ntmps75
  go_wp2_with (go_at_call 90; refine (most_any _).mono ?_; rintro e w1 ⟨rfl, b1⟩)
  go_loopw [5] (fun i wr => ∃ k : Nat, k ≤ 4 ∧ i = .int .i64 k ∧ (∀ j, j < k → g j = true) ∧ Below w.heap.size w wr) (fun i _ => 4 - (intOf i).toNat)
  case atStart => exact ⟨0, by omega, rfl, by omega, b1⟩
  case round =>
    obtain ⟨k, hk, rfl, hall, hb⟩ := hrel;have HB := Lib.hid (And.intro hall hb);clear hall hb b1;by_cases hlt : k < 4
    · obtain ⟨r, hr⟩ : ∃ r, r = g k := ⟨_, rfl⟩;have hc := HG.out k hlt wr HB.out.2;rw [← hr] at hc;have n2 : (k : Int) < 4 := by omega
      have HC := Lib.hid (And.intro hc hr);clear hc hr;cases r
      · go_wp2_with (go_at_call 76; refine HC.out.1.mono ?_; rintro e w2 ⟨rfl, b2⟩)
        go_ret;refine ⟨?_, HB.out.2.trans (b2.mono HB.out.2.size)⟩;have hf := HC.out.2.symm;have : (g 0 && g 1 && g 2 && g 3) = false := by
          rcases (by omega : k = 0 ∨ k = 1 ∨ k = 2 ∨ k = 3) with rfl | rfl | rfl | rfl <;> simp [hf]
        rw [this]; rfl
      · go_wp2_with (go_at_call 76; refine HC.out.1.mono ?_; rintro e w2 ⟨rfl, b2⟩)
        go_roundw;case measure => simp [intOf]; omega
        case rel =>
          refine ⟨k + 1, by omega, by go_num, fun j hj => ?_, HB.out.2.trans (b2.mono HB.out.2.size)⟩;by_cases h : j = k
          · rw [h, ← HC.out.2]
          · exact HB.out.1 j (by omega)
    · obtain rfl : k = 4 := by omega
      go_wp2_with fail
      go_ret;refine ⟨?_, HB.out.2⟩;have h := HB.out.1;rw [h 0 (by omega), h 1 (by omega), h 2 (by omega), h 3 (by omega)]; rfl
theorem checkCell_any (x : Cel) (w : World) :
    Calls Try.prog 56 #[.agg (celA x)] w fun e w' => e = .returned (.int .i64 (celE x)) ∧ Below w.heap.size w w' := by
  obtain ⟨r, hr⟩ : ∃ r, r = celOk x := ⟨_, rfl⟩;have hE : celE x = if r then 0 else 20 := by rw [hr]; rfl
  have b0 : Below w.heap.size w (w.alloc (.cells (celA x) 35)) := (Below.refl _ _).alloc (Nat.le_refl _) _;have HR := Lib.hid (And.intro hr (And.intro hE b0));clear hr hE b0
  go_enter Try.func56, Try.ntmps56
  go_upto_region 2 with (go_at_call 74; refine (spans_any x _).mono ?_; rintro e w1 ⟨rfl, b1⟩)
  have bb := HR.out.2.2.trans (b1.mono (by simp));obtain ⟨W, hW⟩ : ∃ W, W = w1.alloc (.cells (celA x) 156) := ⟨_, rfl⟩;obtain ⟨nb, hnb⟩ : ∃ b, b = w1.heap.size := ⟨_, rfl⟩;have hh : W.heap[nb]? = some (.cells (celA x) 156 (0, 0)) := by rw [hW, hnb]; exact heap_alloc_new _ _
  have bW : Below w.heap.size w W := by rw [hW]; exact bb.alloc bb.size _
  rw [← hW, ← hnb];have ka := allCel_any nb (celN x) W (fun (k : Nat) hk wx hx => ckcel_any x nb k hk wx ((hx.block _ (hL_ hh)).trans hh));have hk : (celN x 0 && celN x 1 && celN x 2 && celN x 3) = r := HR.out.1.symm;rw [hk] at ka;have HA := Lib.hid (And.intro ka bW);clear ka bW hh hW hnb bb b1 hk;cases r
  · go_wp2_with (go_at_call 75; refine HA.out.1.mono ?_; rintro e w2 ⟨rfl, b2⟩)
    go_ret;exact ⟨by rw [HR.out.2.1]; rfl, HA.out.2.trans (b2.mono HA.out.2.size)⟩
  · go_wp2_with (go_at_call 75; refine HA.out.1.mono ?_; rintro e w2 ⟨rfl, b2⟩)
    go_ret;exact ⟨by rw [HR.out.2.1]; rfl, HA.out.2.trans (b2.mono HA.out.2.size)⟩
end Go.Proofs.Ytalcinepeofmcaa
namespace Go.Proofs.Ytalcinepeofmcaa
open Go Go.RowKit Sp Hu
def icE (i : Ic) : Int := if within i.con 0 100 && within i.thk 0 400 && within i.rid 0 100 && within i.prs 0 3 then 0 else 20
abbrev icV (i : Ic) : Array Value := #[.int .i64 i.con, .int .i64 i.thk, .int .i64 i.rid, .int .i64 i.prs]
theorem huice_any (i : Ic) (w : World) : Calls Try.prog 71 #[.agg (icV i)] w fun e w' => e = .returned (.int .i64 (icE i)) ∧ Below w.heap.size w w' := checkIce_any ⟨i.con, i.thk, i.rid, i.prs⟩ w
def loadE (i : Ic) (v : Int) : Int := if icE i ≠ 0 then icE i else if within v 0 250 = false then 6 else 0
theorem loaded_any (i : Ic) (v : Int) (w : World) : Calls Try.prog 52 #[.agg (icV i), .int .i64 v] w fun e w' => e = .returned (.int .i64 (loadE i v)) ∧ Below w.heap.size w w' := by
  obtain ⟨X, hX⟩ : ∃ X, X = w.alloc (.cells (icV i) 38) := ⟨_, rfl⟩;have bX : Below w.heap.size w X := by rw [hX]; exact (Below.refl _ _).alloc (Nat.le_refl _) _
  obtain ⟨e, he⟩ : ∃ e, e = icE i := ⟨_, rfl⟩;have k0 := huice_any i X;rw [← he] at k0;have H0 := Lib.hid (And.intro k0 bX);unfold loadE;rw [← he];clear k0 bX;by_cases h0 : e = 0
  · subst h0;clear he;cases h1 : within v 0 250;all_goals
      go_enter Try.func52, Try.ntmps52
      go_upto_region 1 with fail
      rw [← hX];have hh : X.heap[w.heap.size]? = some (.cells (icV i) 38) := by rw [hX]; exact heap_alloc_new _ _
      have s0 := (cOH hh 0).trans rfl;have s1 := (cOH hh 1).trans rfl;have s2 := (cOH hh 2).trans rfl;have s3 := (cOH hh 3).trans rfl;have zs := hL_ hh;clear hX hh;go_wp2_with (first | (go_at_call 71; refine H0.out.1.mono ?_; rintro e w' ⟨rfl, b1⟩; have HB := Lib.hid (H0.out.2.trans (b1.mono H0.out.2.size)); clear b1) | (go_at_call 72; refine (huin_any _ _ _ _).mono ?_; rintro e w' ⟨rfl, rfl⟩))
      go_ret;exact ⟨rfl, HB.out⟩
  · have hn : (e != 0) = true := by simpa using h0
    rw [if_pos h0];clear he
    go_enter Try.func52, Try.ntmps52
    go_upto_region 1 with fail
    rw [← hX];have hh : X.heap[w.heap.size]? = some (.cells (icV i) 38) := by rw [hX]; exact heap_alloc_new _ _
    have s0 := (cOH hh 0).trans rfl;have s1 := (cOH hh 1).trans rfl;have s2 := (cOH hh 2).trans rfl;have s3 := (cOH hh 3).trans rfl;have zs := hL_ hh;clear hX hh;go_wp2_with (go_at_call 71; refine H0.out.1.mono ?_; rintro e w' ⟨rfl, b1⟩; have HB := Lib.hid (H0.out.2.trans (b1.mono H0.out.2.size)); clear b1)
    go_ret;exact ⟨rfl, HB.out⟩
def huAskedE (s : Shp) (i : Ic) (v : Int) : Int := if shipE s ≠ 0 then shipE s else loadE i v
theorem huasked_any (At : Option Addr) (ct : Nat) (Aw : Option Addr) (cw : Nat) (Ai : Option Addr) (ci : Nat) (s : Shp) (i : Ic) (v : Int) (w : World) (R : ShR At Aw Ai s w) :
    Calls Try.prog 30 #[.agg (shpV At ct Aw cw Ai ci s), .agg (icV i), .int .i64 v] w fun e w' => e = .returned (.int .i64 (huAskedE s i v)) ∧ Below w.heap.size w w' := by
  obtain ⟨X, hX⟩ : ∃ X, X = (w.alloc (.cells (shpV At ct Aw cw Ai ci s) 25)).alloc (.cells (icV i) 38) := ⟨_, rfl⟩;have O : Own w.heap.size w [.blk w.heap.size (.cells (shpV At ct Aw cw Ai ci s) 25), .blk (w.heap.size + 1) (.cells (icV i) 38)] X := by
    have h := ((Own.start w).alloc (.cells (shpV At ct Aw cw Ai ci s) 25)).alloc (.cells (icV i) 38);rw [hX]; simpa using h
  obtain ⟨e0, he⟩ : ∃ e, e = shipE s := ⟨_, rfl⟩;have k0 := hucheck_any At ct Aw cw Ai ci s X (R.below O.bel);rw [← he] at k0;have H0 := Lib.hid (And.intro k0 (And.intro O (loaded_any i v)));unfold huAskedE;rw [← he];clear k0 O he R;by_cases h0 : e0 = 0
  · subst h0
    go_enter Try.func30, Try.ntmps30
    go_upto_region 1 with fail
    rw [← hX];have hh := H0.out.2.1.heap 0 rfl;have s0 := (cOH hh 0).trans rfl;have s1 := (cOH hh 1).trans rfl;have s2 := (cOH hh 2).trans rfl;have s3 := (cOH hh 3).trans rfl;have s4 := (cOH hh 4).trans rfl;have s5 := (cOH hh 5).trans rfl;have s6 := (cOH hh 6).trans rfl;have s7 := (cOH hh 7).trans rfl;have s8 := (cOH hh 8).trans rfl;have s9 := (cOH hh 9).trans rfl;have s10 := (cOH hh 10).trans rfl;have zs := hL_ hh;clear hX hh;go_wp2_with (first | (go_at_call 51; refine H0.out.1.mono ?_; rintro e w' ⟨rfl, b1⟩; have O1 := H0.out.2.1.below b1; have h1 := O1.heap 1 rfl; have y0 := (cOH h1 0).trans rfl; have y1 := (cOH h1 1).trans rfl; have y2 := (cOH h1 2).trans rfl; have y3 := (cOH h1 3).trans rfl; have z1 := hL_ h1; have HB := Lib.hid O1; clear b1 O1 h1) | (go_at_call 52; refine (H0.out.2.2 _).mono ?_; rintro e w' ⟨rfl, b1⟩; have HB2 := Lib.hid (HB.out.bel.trans (b1.mono HB.out.bel.size)); clear b1))
    go_ret;exact ⟨rfl, HB2.out⟩
  · have hn : (e0 != 0) = true := by simpa using h0
    rw [if_pos h0]
    go_enter Try.func30, Try.ntmps30
    go_upto_region 1 with fail
    rw [← hX];have hh := H0.out.2.1.heap 0 rfl;have s0 := (cOH hh 0).trans rfl;have s1 := (cOH hh 1).trans rfl;have s2 := (cOH hh 2).trans rfl;have s3 := (cOH hh 3).trans rfl;have s4 := (cOH hh 4).trans rfl;have s5 := (cOH hh 5).trans rfl;have s6 := (cOH hh 6).trans rfl;have s7 := (cOH hh 7).trans rfl;have s8 := (cOH hh 8).trans rfl;have s9 := (cOH hh 9).trans rfl;have s10 := (cOH hh 10).trans rfl;have zs := hL_ hh;clear hX hh;go_wp2_with (go_at_call 51; refine H0.out.1.mono ?_; rintro e w' ⟨rfl, b1⟩; have HB := Lib.hid (H0.out.2.1.bel.trans (b1.mono H0.out.2.1.bel.size)); clear b1)
    go_ret;exact ⟨rfl, HB.out⟩
def metE (s : Shp) (x : Cel) : Int := if shipE s ≠ 0 then shipE s else celE x
theorem met_any (At : Option Addr) (ct : Nat) (Aw : Option Addr) (cw : Nat) (Ai : Option Addr) (ci : Nat) (s : Shp) (x : Cel) (w : World) (R : ShR At Aw Ai s w) :
    Calls Try.prog 35 #[.agg (shpV At ct Aw cw Ai ci s), .agg (celA x)] w fun e w' => e = .returned (.int .i64 (metE s x)) ∧ Below w.heap.size w w' := by
  obtain ⟨X, hX⟩ : ∃ X, X = (w.alloc (.cells (shpV At ct Aw cw Ai ci s) 25)).alloc (.cells (celA x) 35) := ⟨_, rfl⟩;have O : Own w.heap.size w [.blk w.heap.size (.cells (shpV At ct Aw cw Ai ci s) 25), .blk (w.heap.size + 1) (.cells (celA x) 35)] X := by
    have h := ((Own.start w).alloc (.cells (shpV At ct Aw cw Ai ci s) 25)).alloc (.cells (celA x) 35);rw [hX]; simpa using h
  obtain ⟨e0, he⟩ : ∃ e, e = shipE s := ⟨_, rfl⟩;have k0 := hucheck_any At ct Aw cw Ai ci s X (R.below O.bel);rw [← he] at k0;have H0 := Lib.hid (And.intro k0 (And.intro O (checkCell_any x)));unfold metE;rw [← he];clear k0 O he R;by_cases h0 : e0 = 0
  · subst h0
    go_enter Try.func35, Try.ntmps35
    go_upto_region 1 with fail
    rw [← hX];have hh := H0.out.2.1.heap 0 rfl;have s0 := (cOH hh 0).trans rfl;have s1 := (cOH hh 1).trans rfl;have s2 := (cOH hh 2).trans rfl;have s3 := (cOH hh 3).trans rfl;have s4 := (cOH hh 4).trans rfl;have s5 := (cOH hh 5).trans rfl;have s6 := (cOH hh 6).trans rfl;have s7 := (cOH hh 7).trans rfl;have s8 := (cOH hh 8).trans rfl;have s9 := (cOH hh 9).trans rfl;have s10 := (cOH hh 10).trans rfl;have zs := hL_ hh;clear hX hh;go_wp2_with (first | (go_at_call 51; refine H0.out.1.mono ?_; rintro e w' ⟨rfl, b1⟩; have O1 := H0.out.2.1.below b1; have h1 := O1.heap 1 rfl; have y0 := (cOH h1 0).trans rfl; have y1 := (cOH h1 1).trans rfl; have y2 := (cOH h1 2).trans rfl; have y3 := (cOH h1 3).trans rfl; have y4 := (cOH h1 4).trans rfl; have y5 := (cOH h1 5).trans rfl; have y6 := (cOH h1 6).trans rfl; have y7 := (cOH h1 7).trans rfl; have z1 := hL_ h1; have HB := Lib.hid O1; clear b1 O1 h1) | (go_at_call 56; refine (H0.out.2.2 _).mono ?_; rintro e w' ⟨rfl, b1⟩; have HB2 := Lib.hid (HB.out.bel.trans (b1.mono HB.out.bel.size)); clear b1))
    go_ret;exact ⟨rfl, HB2.out⟩
  · have hn : (e0 != 0) = true := by simpa using h0
    rw [if_pos h0]
    go_enter Try.func35, Try.ntmps35
    go_upto_region 1 with fail
    rw [← hX];have hh := H0.out.2.1.heap 0 rfl;have s0 := (cOH hh 0).trans rfl;have s1 := (cOH hh 1).trans rfl;have s2 := (cOH hh 2).trans rfl;have s3 := (cOH hh 3).trans rfl;have s4 := (cOH hh 4).trans rfl;have s5 := (cOH hh 5).trans rfl;have s6 := (cOH hh 6).trans rfl;have s7 := (cOH hh 7).trans rfl;have s8 := (cOH hh 8).trans rfl;have s9 := (cOH hh 9).trans rfl;have s10 := (cOH hh 10).trans rfl;have zs := hL_ hh;clear hX hh;go_wp2_with (go_at_call 51; refine H0.out.1.mono ?_; rintro e w' ⟨rfl, b1⟩; have HB := Lib.hid (H0.out.2.1.bel.trans (b1.mono H0.out.2.1.bel.size)); clear b1)
    go_ret;exact ⟨rfl, HB.out⟩
end Go.Proofs.Ytalcinepeofmcaa
namespace Go.Proofs.Ytalcinepeofmcaa
open Go Go.RowKit Go.Shelf Go.Proofs Sp Hu
attribute [local go_sem] Oper.semAt_some
def justC (i : Ic) : Cel := ⟨i.con, i.con, i.thk, i.thk, i.rid, i.rid, i.prs, i.prs⟩
abbrev justV (i : Ic) : Array Value := #[.int .i64 i.con, .int .i64 i.con, .int .i64 i.thk, .int .i64 i.thk, .int .i64 i.rid, .int .i64 i.rid, .int .i64 i.prs, .int .i64 i.prs]
theorem celE_just {i : Ic} (h : IcOk i) : celE (justC i) = 0 := by
  obtain ⟨h1, h2, h3, h4⟩ := h;unfold celE celOk justC spanOk;simp [within];omega
theorem ice_results {F : Func} {r : Nat} (hF : F.results = #[.cell r 38]) {W : World} {b : Nat} {i : Ic} (h : W.heap[b]? = some (.cells (icV i) 38 (0, 0))) (tmps : Array Value) (hr : tmps.getD r undef = .pointer (some ⟨b, 0, none⟩)) :
    (results F tmps).run Try.prog W = .ok (.agg (icV i)) W := by
  have g8 : tmps[r]?.getD undef = .pointer (some ⟨b, 0, none⟩) := by simpa using hr
  have c0 : W.cell? ⟨b, 0, none⟩ = some (.int .i64 i.con) := (cOH h 0).trans rfl;have c1 : W.cell? ⟨b, 1, none⟩ = some (.int .i64 i.thk) := (cOH h 1).trans rfl;have c2 : W.cell? ⟨b, 2, none⟩ = some (.int .i64 i.rid) := (cOH h 2).trans rfl;have c3 : W.cell? ⟨b, 3, none⟩ = some (.int .i64 i.prs) := (cOH h 3).trans rfl;simp [results, hF, g8, asAddr, go_sem, c0, c1, c2, c3]
theorem cel_results {F : Func} {r : Nat} (hF : F.results = #[.cell r 35]) {W : World} {b : Nat} {i : Ic} (h : W.heap[b]? = some (.cells (justV i) 35 (0, 0))) (tmps : Array Value) (hr : tmps.getD r undef = .pointer (some ⟨b, 0, none⟩)) :
    (results F tmps).run Try.prog W = .ok (.agg (justV i)) W := by
  have g8 : tmps[r]?.getD undef = .pointer (some ⟨b, 0, none⟩) := by simpa using hr
  have c0 : W.cell? ⟨b, 0, none⟩ = some (.int .i64 i.con) := (cOH h 0).trans rfl;have c1 : W.cell? ⟨b, 1, none⟩ = some (.int .i64 i.con) := (cOH h 1).trans rfl;have c2 : W.cell? ⟨b, 2, none⟩ = some (.int .i64 i.thk) := (cOH h 2).trans rfl;have c3 : W.cell? ⟨b, 3, none⟩ = some (.int .i64 i.thk) := (cOH h 3).trans rfl;have c4 : W.cell? ⟨b, 4, none⟩ = some (.int .i64 i.rid) := (cOH h 4).trans rfl;have c5 : W.cell? ⟨b, 5, none⟩ = some (.int .i64 i.rid) := (cOH h 5).trans rfl;have c6 : W.cell? ⟨b, 6, none⟩ = some (.int .i64 i.prs) := (cOH h 6).trans rfl;have c7 : W.cell? ⟨b, 7, none⟩ = some (.int .i64 i.prs) := (cOH h 7).trans rfl;simp [results, hF, g8, asAddr, go_sem, c0, c1, c2, c3, c4, c5, c6, c7]
theorem st4_heap {W : World} {vb : Nat} {u0 u1 u2 u3 : Value} {t : TypeId} (h : W.heap[vb]? = some (.cells #[u0, u1, u2, u3] t (0, 0))) (x y z v : Value) : ((((W.setCell ⟨vb, 0, none⟩ x).setCell ⟨vb, 1, none⟩ y).setCell ⟨vb, 2, none⟩ z).setCell ⟨vb, 3, none⟩ v).heap[vb]? = some (.cells #[x, y, z, v] t (0, 0)) :=
  hS_ (hS_ (hS_ (hS_ h 0 x) 1 y) 2 z) 3 v
theorem hufirst_any (i : Ic) (w : World) : Calls Try.prog 58 #[.agg (justV i)] w fun e w' => e = .returned (.agg (icV i)) ∧ Below w.heap.size w w' := by
  obtain ⟨W, hW⟩ : ∃ W, W = (w.alloc (.cells (justV i) 35)).alloc (.cells #[.int .i64 0, .int .i64 0, .int .i64 0, .int .i64 0] 38) := ⟨_, rfl⟩;obtain ⟨cb, hcb⟩ : ∃ b, b = w.heap.size := ⟨_, rfl⟩;obtain ⟨rb, hrb⟩ : ∃ b, b = w.heap.size + 1 := ⟨_, rfl⟩;have O : Own w.heap.size w [.blk cb (.cells (justV i) 35), .blk rb (.cells #[.int .i64 0, .int .i64 0, .int .i64 0, .int .i64 0] 38)] W := by
    have h := ((Own.start w).alloc (.cells (justV i) 35)).alloc (.cells #[.int .i64 0, .int .i64 0, .int .i64 0, .int .i64 0] 38);rw [hW, hcb, hrb]; simpa using h
  have hh := O.heap 0 rfl;have hr := O.heap 1 rfl;have s0 : W.cell? ⟨cb, 0, none⟩ = some _ := (cOH hh 0).trans rfl;have s1 : W.cell? ⟨cb, 1, none⟩ = some _ := (cOH hh 1).trans rfl;have s2 : W.cell? ⟨cb, 2, none⟩ = some _ := (cOH hh 2).trans rfl;have s3 : W.cell? ⟨cb, 3, none⟩ = some _ := (cOH hh 3).trans rfl;have s4 : W.cell? ⟨cb, 4, none⟩ = some _ := (cOH hh 4).trans rfl;have s5 : W.cell? ⟨cb, 5, none⟩ = some _ := (cOH hh 5).trans rfl;have s6 : W.cell? ⟨cb, 6, none⟩ = some _ := (cOH hh 6).trans rfl;have s7 : W.cell? ⟨cb, 7, none⟩ = some _ := (cOH hh 7).trans rfl;have zs := hL_ hh;have zr := hL_ hr;have r0 := (cOH hr 0).trans rfl;have f0 := fOH hr 0;have r1 := (cOH hr 1).trans rfl;have f1 := fOH hr 1;have r2 := (cOH hr 2).trans rfl;have f2 := fOH hr 2;have r3 := (cOH hr 3).trans rfl;have f3 := fOH hr 3;have hge : w.heap.size ≤ rb := by omega
  have HO := Lib.hid (And.intro O hr);clear O hh hr
  go_enter Try.func58, Try.ntmps58
  go_upto_region 1 with fail
  rw [← hW, ← hrb, ← hcb];clear hW hrb hcb;go_wp2_with fail
  exact bodyPost_ret (ice_results rfl (i := i) (st4_heap HO.out.2 _ _ _ _) _ rfl) rfl ⟨rfl, (((HO.out.1.bel.setCell hge _).setCell hge _).setCell hge _).setCell hge _⟩
theorem hulast_any (i : Ic) (w : World) : Calls Try.prog 59 #[.agg (justV i)] w fun e w' => e = .returned (.agg (icV i)) ∧ Below w.heap.size w w' := by
  obtain ⟨W, hW⟩ : ∃ W, W = (w.alloc (.cells (justV i) 35)).alloc (.cells #[.int .i64 0, .int .i64 0, .int .i64 0, .int .i64 0] 38) := ⟨_, rfl⟩;obtain ⟨cb, hcb⟩ : ∃ b, b = w.heap.size := ⟨_, rfl⟩;obtain ⟨rb, hrb⟩ : ∃ b, b = w.heap.size + 1 := ⟨_, rfl⟩;have O : Own w.heap.size w [.blk cb (.cells (justV i) 35), .blk rb (.cells #[.int .i64 0, .int .i64 0, .int .i64 0, .int .i64 0] 38)] W := by
    have h := ((Own.start w).alloc (.cells (justV i) 35)).alloc (.cells #[.int .i64 0, .int .i64 0, .int .i64 0, .int .i64 0] 38);rw [hW, hcb, hrb]; simpa using h
  have hh := O.heap 0 rfl;have hr := O.heap 1 rfl;have s0 : W.cell? ⟨cb, 0, none⟩ = some _ := (cOH hh 0).trans rfl;have s1 : W.cell? ⟨cb, 1, none⟩ = some _ := (cOH hh 1).trans rfl;have s2 : W.cell? ⟨cb, 2, none⟩ = some _ := (cOH hh 2).trans rfl;have s3 : W.cell? ⟨cb, 3, none⟩ = some _ := (cOH hh 3).trans rfl;have s4 : W.cell? ⟨cb, 4, none⟩ = some _ := (cOH hh 4).trans rfl;have s5 : W.cell? ⟨cb, 5, none⟩ = some _ := (cOH hh 5).trans rfl;have s6 : W.cell? ⟨cb, 6, none⟩ = some _ := (cOH hh 6).trans rfl;have s7 : W.cell? ⟨cb, 7, none⟩ = some _ := (cOH hh 7).trans rfl;have zs := hL_ hh;have zr := hL_ hr;have r0 := (cOH hr 0).trans rfl;have f0 := fOH hr 0;have r1 := (cOH hr 1).trans rfl;have f1 := fOH hr 1;have r2 := (cOH hr 2).trans rfl;have f2 := fOH hr 2;have r3 := (cOH hr 3).trans rfl;have f3 := fOH hr 3;have hge : w.heap.size ≤ rb := by omega
  have HO := Lib.hid (And.intro O hr);clear O hh hr
  go_enter Try.func59, Try.ntmps59
  go_upto_region 1 with fail
  rw [← hW, ← hrb, ← hcb];clear hW hrb hcb;go_wp2_with fail
  exact bodyPost_ret (ice_results rfl (i := i) (st4_heap HO.out.2 _ _ _ _) _ rfl) rfl ⟨rfl, (((HO.out.1.bel.setCell hge _).setCell hge _).setCell hge _).setCell hge _⟩
theorem st8_heap {W : World} {vb : Nat} {u0 u1 u2 u3 u4 u5 u6 u7 : Value} {t : TypeId} (h : W.heap[vb]? = some (.cells #[u0, u1, u2, u3, u4, u5, u6, u7] t (0, 0))) (x y z v a b c d : Value) : ((((((((W.setCell ⟨vb, 0, none⟩ x).setCell ⟨vb, 1, none⟩ y).setCell ⟨vb, 2, none⟩ z).setCell ⟨vb, 3, none⟩ v).setCell ⟨vb, 4, none⟩ a).setCell ⟨vb, 5, none⟩ b).setCell ⟨vb, 6, none⟩ c).setCell ⟨vb, 7, none⟩ d).heap[vb]? = some (.cells #[x, y, z, v, a, b, c, d] t (0, 0)) := by
  have h1 := hS_ h 0 x;have h2 := hS_ h1 1 y;have h3 := hS_ h2 2 z;have h4 := hS_ h3 3 v;have h5 := hS_ h4 4 a;have h6 := hS_ h5 5 b;have h7 := hS_ h6 6 c;have h8 := hS_ h7 7 d;rw [h8];simp
theorem level3_any (n : Int) (w : World) : Calls Try.prog 9 #[.int .i64 n, .int .i64 n] w fun e w' => e = .returned (.agg (justV (lvl n))) ∧ Below w.heap.size w w' := by
  obtain ⟨W, hW⟩ : ∃ W, W = w.alloc (.cells #[.int .i64 0, .int .i64 0, .int .i64 0, .int .i64 0, .int .i64 0, .int .i64 0, .int .i64 0, .int .i64 0] 35) := ⟨_, rfl⟩;obtain ⟨rb, hrb⟩ : ∃ b, b = w.heap.size := ⟨_, rfl⟩;have O : Own w.heap.size w [.blk rb (.cells #[.int .i64 0, .int .i64 0, .int .i64 0, .int .i64 0, .int .i64 0, .int .i64 0, .int .i64 0, .int .i64 0] 35)] W := by
    have h := (Own.start w).alloc (.cells #[.int .i64 0, .int .i64 0, .int .i64 0, .int .i64 0, .int .i64 0, .int .i64 0, .int .i64 0, .int .i64 0] 35);rw [hW, hrb]; simpa using h
  have hr := O.heap 0 rfl;have zr := hL_ hr;have r0 := (cOH hr 0).trans rfl;have f0 := fOH hr 0;have r1 := (cOH hr 1).trans rfl;have f1 := fOH hr 1;have r2 := (cOH hr 2).trans rfl;have f2 := fOH hr 2;have r3 := (cOH hr 3).trans rfl;have f3 := fOH hr 3;have r4 := (cOH hr 4).trans rfl;have f4 := fOH hr 4;have r5 := (cOH hr 5).trans rfl;have f5 := fOH hr 5;have r6 := (cOH hr 6).trans rfl;have f6 := fOH hr 6;have r7 := (cOH hr 7).trans rfl;have f7 := fOH hr 7;have hge : w.heap.size ≤ rb := by omega
  have HO := Lib.hid (And.intro O hr);clear O hr
  go_enter Try.func9, Try.ntmps9
  go_upto_region 1 with fail
  rw [← hW, ← hrb];clear hW hrb;go_wp2_with fail
  exact bodyPost_ret (cel_results rfl (i := lvl n) (st8_heap HO.out.2 _ _ _ _ _ _ _ _) _ rfl) rfl ⟨rfl, (((((((HO.out.1.bel.setCell hge _).setCell hge _).setCell hge _).setCell hge _).setCell hge _).setCell hge _).setCell hge _).setCell hge _⟩
theorem just3_any (i : Ic) (w : World) : Calls Try.prog 7 #[.agg (icV i)] w fun e w' => e = .returned (.agg (justV i)) ∧ Below w.heap.size w w' := by
  obtain ⟨W, hW⟩ : ∃ W, W = (w.alloc (.cells (icV i) 38)).alloc (.cells #[.int .i64 0, .int .i64 0, .int .i64 0, .int .i64 0, .int .i64 0, .int .i64 0, .int .i64 0, .int .i64 0] 35) := ⟨_, rfl⟩;obtain ⟨cb, hcb⟩ : ∃ b, b = w.heap.size := ⟨_, rfl⟩;obtain ⟨rb, hrb⟩ : ∃ b, b = w.heap.size + 1 := ⟨_, rfl⟩;have O : Own w.heap.size w [.blk cb (.cells (icV i) 38), .blk rb (.cells #[.int .i64 0, .int .i64 0, .int .i64 0, .int .i64 0, .int .i64 0, .int .i64 0, .int .i64 0, .int .i64 0] 35)] W := by
    have h := ((Own.start w).alloc (.cells (icV i) 38)).alloc (.cells #[.int .i64 0, .int .i64 0, .int .i64 0, .int .i64 0, .int .i64 0, .int .i64 0, .int .i64 0, .int .i64 0] 35);rw [hW, hcb, hrb]; simpa using h
  have hh := O.heap 0 rfl;have hr := O.heap 1 rfl;have s0 : W.cell? ⟨cb, 0, none⟩ = some _ := (cOH hh 0).trans rfl;have s1 : W.cell? ⟨cb, 1, none⟩ = some _ := (cOH hh 1).trans rfl;have s2 : W.cell? ⟨cb, 2, none⟩ = some _ := (cOH hh 2).trans rfl;have s3 : W.cell? ⟨cb, 3, none⟩ = some _ := (cOH hh 3).trans rfl;have zs := hL_ hh;have zr := hL_ hr;have r0 := (cOH hr 0).trans rfl;have f0 := fOH hr 0;have r1 := (cOH hr 1).trans rfl;have f1 := fOH hr 1;have r2 := (cOH hr 2).trans rfl;have f2 := fOH hr 2;have r3 := (cOH hr 3).trans rfl;have f3 := fOH hr 3;have r4 := (cOH hr 4).trans rfl;have f4 := fOH hr 4;have r5 := (cOH hr 5).trans rfl;have f5 := fOH hr 5;have r6 := (cOH hr 6).trans rfl;have f6 := fOH hr 6;have r7 := (cOH hr 7).trans rfl;have f7 := fOH hr 7;have hge : w.heap.size ≤ rb := by omega
  have HO := Lib.hid (And.intro O hr);clear O hh hr
  go_enter Try.func7, Try.ntmps7
  go_upto_region 1 with fail
  rw [← hW, ← hrb, ← hcb];clear hW hrb hcb;go_wp2_with fail
  exact bodyPost_ret (cel_results rfl (i := i) (st8_heap HO.out.2 _ _ _ _ _ _ _ _) _ rfl) rfl ⟨rfl, (((((((HO.out.1.bel.setCell hge _).setCell hge _).setCell hge _).setCell hge _).setCell hge _).setCell hge _).setCell hge _).setCell hge _⟩
end Go.Proofs.Ytalcinepeofmcaa
