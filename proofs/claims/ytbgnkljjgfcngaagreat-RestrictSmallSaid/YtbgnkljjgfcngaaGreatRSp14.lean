/- the walk of awake (printed by wip/tools/awake.py) -/
import Derived.Test.YtbgnkljjgfcngaaGreatRSp13
import Derived.Test.YtbgnkljjgfcngaaGreatRSp6
import Derived.Test.YtbgnkljjgfcngaaGreatRSp12
import Derived.IntWalk
import Derived.Test.YtbgnkljjgfcngaaGreatRSp11
import Derived.Deep.DeepCutAuto
set_option linter.unusedVariables false
set_option linter.unusedSimpArgs false
namespace Go.Proofs.YtbgnkljjgfcngaaGreat
open Go Go.RowKit Sp


abbrev VS (vb : Nat) (w : World) : Prop := vb < w.heap.size ∧ w.cell? ⟨vb, 0, none⟩ = some (.int .i64 1) ∧ w.cell? ⟨vb, 1, none⟩ = some (.int .i64 2500) ∧ w.cell? ⟨vb, 2, none⟩ = some (.bool true)
theorem vs_alloc {vb : Nat} {w : World} (h : VS vb w) (o : Obj) : VS vb (w.alloc o) := ⟨by have := h.1; simp; omega, (World.cell?_alloc_lt w o ⟨vb, 0, none⟩ h.1).trans h.2.1, (World.cell?_alloc_lt w o ⟨vb, 1, none⟩ h.1).trans h.2.2.1, (World.cell?_alloc_lt w o ⟨vb, 2, none⟩ h.1).trans h.2.2.2⟩
theorem vs_below {vb : Nat} {w w' : World} (h : VS vb w) (hb : Below w.heap.size w w') : VS vb w' := ⟨Nat.lt_of_lt_of_le h.1 hb.size, (hb.cell (p := ⟨vb, 0, none⟩) h.1).trans h.2.1, (hb.cell (p := ⟨vb, 1, none⟩) h.1).trans h.2.2.1, (hb.cell (p := ⟨vb, 2, none⟩) h.1).trans h.2.2.2⟩

set_option maxRecDepth 100000 in
set_option maxHeartbeats 8000000 in
theorem awake_any (w : World) : Calls Tryz.prog 16 #[] w fun e w' => e = .returned (.bool true) ∧ Below w.heap.size w w' := by
  go_enter Tryz.func16, Tryz.ntmps16
  go_upto_region 2 with (first
    | (go_at_call 4; refine (Example_any _).mono ?_; rintro e wa ⟨ba, rfl, hp, b1⟩)
    | (go_at_call 5; refine (winter_any _).mono ?_; rintro e wb ⟨bb, rfl, hd, b2⟩)
    | (go_at_call 22; refine (dec_ex ba bb _ (hp.below b2) hd).mono ?_; rintro e w1 ⟨A1, c1, rfl, r1, b3⟩))
  have bS : Below w.heap.size w w1 := b1.trans ((b2.mono b1.size).trans (b3.mono (Nat.le_trans b1.size b2.size)))
  have B1 : Below w.heap.size w w1 := bS
  clear b1 b2 b3 hp hd bS
  go_upto_region 3 with (first
    | (go_at_call 4; refine (Example_any _).mono ?_; rintro e wa ⟨ba, rfl, hp, b1⟩)
    | (go_at_call 5; refine (winter_any _).mono ?_; rintro e wb ⟨bb, rfl, hd, b2⟩)
    | (go_at_call 11; refine (for_ex ba bb _ (hp.below b2) hd).mono ?_; rintro e w2 ⟨A2, c2, rfl, r2, b3⟩))
  have bS : Below w1.heap.size w1 w2 := b1.trans ((b2.mono b1.size).trans (b3.mono (Nat.le_trans b1.size b2.size)))
  have B2 : Below w.heap.size w w2 := B1.trans (bS.mono B1.size)
  have r1 := r1.below bS
  clear b1 b2 b3 hp hd bS B1
  go_upto_region 4 with (first
    | (go_at_call 4; refine (Example_any _).mono ?_; rintro e wa ⟨ba, rfl, hp, b1⟩)
    | (go_at_call 5; refine (winter_any _).mono ?_; rintro e wb ⟨bb, rfl, hd, b2⟩)
    | (go_at_call 26; refine (ord_ex ba bb _ (hp.below b2) hd).mono ?_; rintro e w3 ⟨A3, c3, rfl, r3, b3⟩))
  have bS : Below w2.heap.size w2 w3 := b1.trans ((b2.mono b1.size).trans (b3.mono (Nat.le_trans b1.size b2.size)))
  have B3 : Below w.heap.size w w3 := B2.trans (bS.mono B2.size)
  have r1 := r1.below bS
  have r2 := r2.below bS
  clear b1 b2 b3 hp hd bS B2
  go_upto_region 5 with (first
    | (go_at_call 4; refine (Example_any _).mono ?_; rintro e wa ⟨ba, rfl, hp, b1⟩)
    | (go_at_call 5; refine (winter_any _).mono ?_; rintro e wb ⟨bb, rfl, hd, b2⟩)
    | (go_at_call 32; refine (wit_ex ba bb _ (hp.below b2) hd).mono ?_; rintro e w4 ⟨rfl, b3⟩))
  have bS : Below w3.heap.size w3 w4 := b1.trans ((b2.mono b1.size).trans (b3.mono (Nat.le_trans b1.size b2.size)))
  have B4 : Below w.heap.size w w4 := B3.trans (bS.mono B3.size)
  have r1 := r1.below bS
  have r2 := r2.below bS
  have r3 := r3.below bS
  clear b1 b2 b3 hp hd bS B3
  obtain ⟨w4x, hw4⟩ : ∃ W, W = w4.alloc (.cells #[.int .i64 2, .int .i64 3] 33) := ⟨_, rfl⟩
  rw [← hw4]
  have bS : Below w4.heap.size w4 w4x := by rw [hw4]; exact (Below.refl _ _).alloc (Nat.le_refl _) _
  have s0 : w4x.cell? ⟨w4.heap.size, 0, none⟩ = some (.int .i64 2) := by rw [hw4, World.cell?_alloc_new]; rfl
  have s1 : w4x.cell? ⟨w4.heap.size, 1, none⟩ = some (.int .i64 3) := by rw [hw4, World.cell?_alloc_new]; rfl
  have sz : w4.heap.size < w4x.heap.size := by rw [hw4]; simp
  have B4x : Below w.heap.size w w4x := B4.trans (bS.mono B4.size)
  have r1 := r1.below bS
  have r2 := r2.below bS
  have r3 := r3.below bS
  generalize hsb : w4.heap.size = sb at s0 s1 sz ⊢
  clear hw4 bS B4 hsb
  go_upto_region 6 with (first
    | (go_at_call 4; refine (Example_any _).mono ?_; rintro e wa ⟨ba, rfl, hp, b1⟩)
    | (go_at_call 5; refine (winter_any _).mono ?_; rintro e wb ⟨bb, rfl, hd, b2⟩)
    | (go_at_call 41; refine (win_ex ba bb _ (hp.below b2) hd).mono ?_; rintro e w5 ⟨A5, c5, rfl, r5, b3⟩))
  have bS : Below w4x.heap.size w4x w5 := b1.trans ((b2.mono b1.size).trans (b3.mono (Nat.le_trans b1.size b2.size)))
  have B5 : Below w.heap.size w w5 := B4x.trans (bS.mono B4x.size)
  have r1 := r1.below bS
  have r2 := r2.below bS
  have r3 := r3.below bS
  have s0 := (bS.cell (p := ⟨sb, 0, none⟩) sz).trans s0
  have s1 := (bS.cell (p := ⟨sb, 1, none⟩) sz).trans s1
  have sz : sb < w5.heap.size := Nat.lt_of_lt_of_le sz bS.size
  clear b1 b2 b3 hp hd bS B4x
  go_upto_region 7 with fail
  obtain ⟨w6, hw6⟩ : ∃ W, W = w5.alloc (.cells #[.int .i64 1, .int .i64 2500, .bool true] 29) := ⟨_, rfl⟩
  rw [← hw6]
  have bS : Below w5.heap.size w5 w6 := by rw [hw6]; exact (Below.refl _ _).alloc (Nat.le_refl _) _
  have v0 : w6.cell? ⟨w5.heap.size, 0, none⟩ = some (.int .i64 1) := by rw [hw6, World.cell?_alloc_new]; rfl
  have v1 : w6.cell? ⟨w5.heap.size, 1, none⟩ = some (.int .i64 2500) := by rw [hw6, World.cell?_alloc_new]; rfl
  have v2 : w6.cell? ⟨w5.heap.size, 2, none⟩ = some (.bool true) := by rw [hw6, World.cell?_alloc_new]; rfl
  have vz : w5.heap.size < w6.heap.size := by rw [hw6]; simp
  have B6 : Below w.heap.size w w6 := B5.trans (bS.mono B5.size)
  have s0 := (bS.cell (p := ⟨sb, 0, none⟩) sz).trans s0
  have s1 := (bS.cell (p := ⟨sb, 1, none⟩) sz).trans s1
  have sz : sb < w6.heap.size := Nat.lt_of_lt_of_le sz bS.size
  have r1 := r1.below bS
  have r2 := r2.below bS
  have r3 := r3.below bS
  have r5 := r5.below bS
  generalize hvb : w5.heap.size = vb at v0 v1 v2 vz ⊢
  clear hw6 bS B5 hvb
  have HR := Lib.hid (And.intro r1 (And.intro r2 (And.intro r3 (And.intro r5 (And.intro s0 (And.intro s1 (And.intro sz B6)))))))
  clear r1 r2 r3 r5 s0 s1 sz B6
  have hv : VS vb w6 := ⟨vz, v0, v1, v2⟩
  clear vz v0 v1 v2
  go_region_held3 (fun w' => vb < w'.heap.size ∧ w'.cell? ⟨vb, 0, none⟩ = some (.int .i64 1) ∧ w'.cell? ⟨vb, 1, none⟩ = some (.int .i64 2500) ∧ w'.cell? ⟨vb, 2, none⟩ = some (.bool true)) (first | assumption | exact vs_alloc (by assumption) _ | exact vs_alloc (vs_below (by assumption) (Below.refl _ _).drew) _ | (simp only [World.size_drew, World.cell?_drew]; assumption))
    (first
      | (go_at_call 4; refine (Example_any _).mono ?_; rintro e wa ⟨ba, rfl, hp, b1⟩; have hva : VS vb wa := by first | exact vs_below (vs_below hv (Below.refl _ _).drew) b1 | exact vs_below (vs_alloc (vs_below hv (Below.refl _ _).drew) _) b1)
      | (go_at_call 5; refine (winter_any _).mono ?_; rintro e wb ⟨bb, rfl, hd, b2⟩; have hvb : VS vb wb := by first | exact vs_below hva b2 | exact vs_below (vs_alloc hva _) b2)
      | (go_at_call 13
         first
           | (have hp' := hp.below b2
              have hl' := (rd_lit wb 5 3 (pscs exPs) 31 rfl)
              have b0 : Below w6.heap.size w6 wb := (Below.refl _ _).drew.trans (b1.trans (b2.mono b1.size))
              have bl := (Below.refl wb.heap.size wb).alloc (Nat.le_refl _) (.cells (pscs exPs).toArray 31)
              refine (rev_ex ba bb _ (hp'.below bl) (hd.below bl) wb.heap.size hl').mono ?_
              rintro e w7 ⟨A6, c6, rfl, r6, b3⟩
              have hvc := vs_below (vs_alloc hvb _) b3
              have b4 : Below w6.heap.size w6 w7 := b0.trans ((bl.trans (b3.mono (by simp))).mono b0.size)
              clear b1 b2 b3 hp hd hp' hl' b0 bl)
           | (have hp' := hp.below b2
              have hl' := ((rd_lit w6.drew 5 3 (pscs exPs) 31 rfl).below b1).below b2
              have b0 : Below w6.heap.size w6 wb := ((Below.refl w6.heap.size w6).drew.alloc (Nat.le_refl _) _).trans ((b1.trans (b2.mono b1.size)).mono (by simp))
              refine (rev_ex ba bb _ hp' hd w6.heap.size hl').mono ?_
              rintro e w7 ⟨A6, c6, rfl, r6, b3⟩
              have hvc := vs_below hvb b3
              have b4 : Below w6.heap.size w6 w7 := b0.trans (b3.mono b0.size)
              clear b1 b2 b3 hp hd hp' hl' b0)
           | (have hp' := (hp.below ((Below.refl _ _).alloc (Nat.le_refl _) _)).below b2
              have hl' := (rd_lit wa 5 3 (pscs exPs) 31 rfl).below b2
              have ba' : Below w6.heap.size w6 wa := (Below.refl _ _).drew.trans b1
              have b0 : Below w6.heap.size w6 wb := (ba'.alloc ba'.size _).trans (b2.mono (by have := ba'.size; simp; omega))
              refine (rev_ex ba bb _ hp' hd wa.heap.size hl').mono ?_
              rintro e w7 ⟨A6, c6, rfl, r6, b3⟩
              have hvc := vs_below hvb b3
              have b4 : Below w6.heap.size w6 w7 := b0.trans (b3.mono b0.size)
              clear b1 b2 b3 hp hd hp' hl' b0 ba')))
  all_goals
    obtain ⟨r1, r2, r3, r5, s0, s1, sz, B6⟩ := HR.out
    have B7 : Below w.heap.size w w7 := B6.trans (b4.mono B6.size)
    have r1 := r1.below b4
    have r2 := r2.below b4
    have r3 := r3.below b4
    have r5 := r5.below b4
    have s0 := (b4.cell (p := ⟨sb, 0, none⟩) sz).trans s0
    have s1 := (b4.cell (p := ⟨sb, 1, none⟩) sz).trans s1
    have sz : sb < w7.heap.size := Nat.lt_of_lt_of_le sz b4.size
    clear b4 hv hva hvb hvc B6 HR
    have HR2 := Lib.hid (And.intro r1 (And.intro r2 (And.intro r3 (And.intro r5 r6))))
    clear r1 r2 r3 r5 r6
    go_wp2_with fail
    refine (eqInts_same A1 _ c1 9 9 [0, 1, 1, 2, 2, 2, 1, 0, 0] _ rfl (by decide) (HR2.out.1.below ((Below.refl _ _).alloc (Nat.le_refl _) _)) (rd_lit _ 1 9 (ints [0, 1, 1, 2, 2, 2, 1, 0, 0]) _ rfl)).mono ?_
    rintro e x1 ⟨rfl, b1⟩
    have d1 : Below w7.heap.size w7 x1 := ((Below.refl _ _).alloc (Nat.le_refl _) _).trans (b1.mono (by simp))
    have HD1 := Lib.hid d1
    clear b1 d1
    go_wp2_with fail
    refine (eqInts_same A2 _ c2 9 9 [0, 0, 1, 1, 2, 2, 1, 0, 0] _ rfl (by decide) (HR2.out.2.1.below (HD1.out.alloc HD1.out.size _)) (rd_lit _ 1 9 (ints [0, 0, 1, 1, 2, 2, 1, 0, 0]) _ rfl)).mono ?_
    rintro e x2 ⟨rfl, b2⟩
    have d2 : Below w7.heap.size w7 x2 := (HD1.out.alloc HD1.out.size _).trans (b2.mono (by have := HD1.out.size; simp; omega))
    have HD2 := Lib.hid d2
    clear b2 d2
    go_wp2_with fail
    refine (eqOrds_same A3 _ c3 4 4 [⟨1, 2, 1⟩, ⟨3, 4, 2⟩, ⟨6, 6, 1⟩, ⟨7, 7, 0⟩] _ rfl (by decide) (HR2.out.2.2.1.below (HD2.out.alloc HD2.out.size _)) (rd_lit _ 3 4 (occs [⟨1, 2, 1⟩, ⟨3, 4, 2⟩, ⟨6, 6, 1⟩, ⟨7, 7, 0⟩]) _ rfl)).mono ?_
    rintro e x3 ⟨rfl, b3⟩
    have d3 : Below w7.heap.size w7 x3 := (HD2.out.alloc HD2.out.size _).trans (b3.mono (by have := HD2.out.size; simp; omega))
    have s0' := (d3.cell (p := ⟨sb, 0, none⟩) sz).trans s0
    have s1' := (d3.cell (p := ⟨sb, 1, none⟩) sz).trans s1
    have HD3 := Lib.hid d3
    clear b3 d3
    go_wp2_with fail
    refine (eqSpans_same A5 _ c5 2 2 [(0, 3), (6, 8)] _ rfl (by decide) (HR2.out.2.2.2.1.below (HD3.out.alloc HD3.out.size _)) (rd_lit _ 2 2 (spcs [(0, 3), (6, 8)]) _ rfl)).mono ?_
    rintro e x4 ⟨rfl, b4⟩
    have d4 : Below w7.heap.size w7 x4 := (HD3.out.alloc HD3.out.size _).trans (b4.mono (by have := HD3.out.size; simp; omega))
    have HD4 := Lib.hid d4
    clear b4 d4
    go_wp2_with fail
    refine (eqInts_same A6 _ c6 3 3 [0, 2, 1] _ rfl (by decide) (HR2.out.2.2.2.2.below (HD4.out.alloc HD4.out.size _)) (rd_lit _ 1 3 (ints [0, 2, 1]) _ rfl)).mono ?_
    rintro e x5 ⟨rfl, b5⟩
    have d5 : Below w7.heap.size w7 x5 := (HD4.out.alloc HD4.out.size _).trans (b5.mono (by have := HD4.out.size; simp; omega))
    go_wp2_with fail
    go_ret
    exact ⟨rfl, B7.trans (d5.mono B7.size)⟩
end Go.Proofs.YtbgnkljjgfcngaaGreat
/- The policy and the history that were made, at each world behind them. -/
namespace Go.Proofs.YtbgnkljjgfcngaaGreat
open Go Go.RowKit Sp
set_option linter.unusedVariables false

/-- the policy p lies in block pb and in steps at As, the history at Ad; w: the first world -/
structure PD (w W : World) (pb : Nat) (As : Option Addr) (cs : Nat) (p : Pol) (Ad : Option Addr) (days : List Int) : Prop where
  blk : W.heap[pb]? = some (.cells #[.slice As p.steps.length cs, .int .i64 p.hold, .int .i64 p.calm, .int .i64 p.notice, .int .i64 p.grace] 25 (0, 0))
  pol : PolV W As cs p
  dys : Rd W 1 Ad days.length (ints days)
  bel : Below w.heap.size w W
section
variable {w W X : World} {pb : Nat} {As : Option Addr} {cs : Nat} {p : Pol} {Ad : Option Addr} {days : List Int}
theorem PD.below (h : PD w W pb As cs p Ad days) (hb : Below W.heap.size W X) : PD w X pb As cs p Ad days :=
  ⟨(hb.block _ (heap_lt h.blk)).trans h.blk, h.pol.below hb, h.dys.below hb, h.bel.trans (hb.mono h.bel.size)⟩
theorem PD.cells (h : PD w W pb As cs p Ad days) : W.cell? ⟨pb, 0, none⟩ = some (.slice As p.steps.length cs) ∧ W.cell? ⟨pb, 1, none⟩ = some (.int .i64 p.hold) ∧ W.cell? ⟨pb, 2, none⟩ = some (.int .i64 p.calm) ∧ W.cell? ⟨pb, 3, none⟩ = some (.int .i64 p.notice) ∧ W.cell? ⟨pb, 4, none⟩ = some (.int .i64 p.grace) ∧ pb < W.heap.size :=
  ⟨(cell_of_heap h.blk 0).trans rfl, (cell_of_heap h.blk 1).trans rfl, (cell_of_heap h.blk 2).trans rfl, (cell_of_heap h.blk 3).trans rfl, (cell_of_heap h.blk 4).trans rfl, heap_lt h.blk⟩
theorem PD.new {w2 : World} (hp : PolV w2 As cs p) (hd : Rd w2 1 Ad days.length (ints days)) (hb : Below w.heap.size w w2) :
    PD w (w2.alloc (.cells #[.slice As p.steps.length cs, .int .i64 p.hold, .int .i64 p.calm, .int .i64 p.notice, .int .i64 p.grace] 25)) w2.heap.size As cs p Ad days := by
  have b : ∀ o, Below w2.heap.size w2 (w2.alloc o) := fun o => (Below.refl _ _).alloc (Nat.le_refl _) _
  exact ⟨heap_alloc_new _ _, hp.below (b _), hd.below (b _), hb.alloc hb.size _⟩
end
end Go.Proofs.YtbgnkljjgfcngaaGreat
/- rules.shows where the span's end is very small (its length wraps): false -/
namespace Go.Proofs.YtbgnkljjgfcngaaGreat
open Go Go.RowKit Sp
set_option linter.unusedVariables false

theorem wrap_low {lo hi h : Int} (l0 : 0 ≤ lo) (l1 : lo ≤ 100000) (h0 : -9223372036854775808 ≤ hi) (h1 : hi < -4000000000000000000) (h2 : 1 ≤ h) (h3 : h ≤ 1000) : (wrap64 (wrap64 (hi - lo) + 1) != h) = true := by
  simp only [wrap64, bne_iff_ne, ne_eq]
  omega

set_option maxRecDepth 100000 in
set_option maxHeartbeats 2000000 in
theorem shows_low (pb : Nat) (p : Pol) (A : Option Addr) (c : Nat) (days : List Int) (Ak : Option Addr) (ck : Nat) (kp : List Int) (d j : Nat) (lo hi : Int) (w : World) (hp : PolAt w pb p) (hh : 1 ≤ p.hold ∧ p.hold ≤ 1000)
    (hl : days.length ≤ 100000) (hd : d < days.length) (hhi : hi < -4000000000000000000) (hh0 : -9223372036854775808 ≤ hi) :
    Calls Tryz.prog 82 #[.agg #[.pointer (some ⟨pb, 0, none⟩)], .slice A days.length c, .slice Ak days.length ck, .int .i64 d, .int .i64 j, .agg #[.int .i64 lo, .int .i64 hi]] w
      fun e w' => e = .returned (.bool (showsS p days kp d j lo hi)) ∧ Below w.heap.size w w' := by
  have b0 : ∀ o o', Below w.heap.size w ((w.alloc o).alloc o') := fun o o' => ((Below.refl _ _).alloc (Nat.le_refl _) _).alloc (by simp) _
  have hf : showsS p days kp d j lo hi = false := by rw [showsS, if_pos (by omega)]
  obtain ⟨h, hh1⟩ : ∃ h, h = p.hold := ⟨_, rfl⟩
  have hs1 : w.cell? ⟨pb, 1, none⟩ = some (.int .i64 h) := by obtain ⟨Ap, cp, hh, _⟩ := hp; rw [cell_of_heap hh, hh1]; rfl
  have hpb : pb < w.heap.size := by obtain ⟨Ap, cp, hh, _⟩ := hp; exact heap_lt hh
  rw [← hh1] at hh
  rw [hf]
  clear hh1 hp hf
  have d2 : decide ((d : Int) < hi) = false := by simp; omega
  by_cases g1 : lo < 0
  · have d1 : decide (lo < 0) = true := by simp [g1]
    go_enter Tryz.func82, Tryz.ntmps82
    go_upto_region 1 with fail
    go_quiet (fail)
    go_wp2_with fail
    go_ret
    exact ⟨rfl, below_drewN (b0 _ _) _⟩
  · have d1 : decide (lo < 0) = false := by simp [g1]
    by_cases g3 : (d : Int) < lo
    · have d3 : decide ((d : Int) < lo) = true := by simp [g3]
      go_enter Tryz.func82, Tryz.ntmps82
      go_upto_region 1 with fail
      go_quiet (fail)
      go_wp2_with fail
      go_ret
      exact ⟨rfl, below_drewN (b0 _ _) _⟩
    · have d3 : decide ((d : Int) < lo) = false := by simp [g3]
      have d4 := wrap_low (lo := lo) (hi := hi) (h := h) (by omega) (by omega) hh0 hhi hh.1 hh.2
      clear hhi hh0 g1 g3 hh
      go_enter Tryz.func82, Tryz.ntmps82
      go_upto_region 1 with fail
      go_quiet (fail)
      go_wp2_with fail
      go_ret
      exact ⟨rfl, below_drewN (b0 _ _) _⟩

theorem shows_all (pb : Nat) (p : Pol) (A : Option Addr) (c : Nat) (days : List Int) (Ak : Option Addr) (ck : Nat) (kp : List Int) (d j : Nat) (lo hi : Int) (w : World) (hp : PolAt w pb p) (hh : 1 ≤ p.hold ∧ p.hold ≤ 1000)
    (hr : Rd w 1 A days.length (ints days)) (hc : days.length ≤ c ∧ c ≤ 9223372036854775807) (hrk : Rd w 1 Ak days.length (ints kp)) (hck : days.length ≤ ck ∧ ck ≤ 9223372036854775807) (hl : days.length ≤ 100000) (hd : d < days.length) (hj : j < p.steps.length) (hhi : -9223372036854775808 ≤ hi) :
    Calls Tryz.prog 82 #[.agg #[.pointer (some ⟨pb, 0, none⟩)], .slice A days.length c, .slice Ak days.length ck, .int .i64 d, .int .i64 j, .agg #[.int .i64 lo, .int .i64 hi]] w
      fun e w' => e = .returned (.bool (showsS p days kp d j lo hi)) ∧ Below w.heap.size w w' := by
  by_cases h : hi < -4000000000000000000
  · exact shows_low pb p A c days Ak ck kp d j lo hi w hp hh hl hd h hhi
  · exact shows_any pb p A c days Ak ck kp d j lo hi w hp hh hr hc hrk hck hl hd hj (by omega)
end Go.Proofs.YtbgnkljjgfcngaaGreat
/- restrict.Shows -/
namespace Go.Proofs.YtbgnkljjgfcngaaGreat
open Go Go.RowKit Sp
set_option linter.unusedVariables false

/-- the error of Shows -/
def shE (p : Pol) (days : List Int) (day step : Int) : Int := if startS p days ≠ 0 then startS p days else if !within day 0 ((days.length : Int) - 1) then 6 else if !within step 0 ((p.steps.length : Int) - 1) then 1 else 0
def shB (p : Pol) (days : List Int) (day step lo hi : Int) : Bool := if shE p days day step = 0 then showsS p days (keptS p days) day step lo hi else false
theorem sh_start {p : Pol} {days : List Int} {day step : Int} (h : startS p days ≠ 0) : shE p days day step = startS p days := by unfold shE; rw [if_pos h]
theorem sh_day {p : Pol} {days : List Int} {day step : Int} (h : startS p days = 0) (h1 : within day 0 ((days.length : Int) - 1) = false) : shE p days day step = 6 := by unfold shE; rw [if_neg (fun f => f h), h1]; rfl
theorem sh_step {p : Pol} {days : List Int} {day step : Int} (h : startS p days = 0) (h1 : within day 0 ((days.length : Int) - 1) = true) (h2 : within step 0 ((p.steps.length : Int) - 1) = false) : shE p days day step = 1 := by unfold shE; rw [if_neg (fun f => f h), h1, h2]; rfl
theorem sh_ok {p : Pol} {days : List Int} {day step : Int} (h : startS p days = 0) (h1 : within day 0 ((days.length : Int) - 1) = true) (h2 : within step 0 ((p.steps.length : Int) - 1) = true) : shE p days day step = 0 := by unfold shE; rw [if_neg (fun f => f h), h1, h2]; rfl
def ShowsPost (w : World) (p : Pol) (days : List Int) (day step lo hi : Int) (e : Ending) (w' : World) : Prop :=
  e = .returned (.tuple #[.bool (shB p days day step lo hi), .int .i64 (shE p days day step)]) ∧ Below w.heap.size w w'

set_option maxRecDepth 100000 in
set_option maxHeartbeats 4000000 in
theorem Shows_all (As : Option Addr) (cs : Nat) (p : Pol) (A : Option Addr) (c : Nat) (days : List Int) (day step lo hi : Int) (w : World) (hp : PolV w As cs p) (hr : Rd w 1 A days.length (ints days)) (hcc : days.length ≤ c ∧ c ≤ 9223372036854775807) (hhi : -9223372036854775808 ≤ hi) :
    Calls Tryz.prog 34 #[.agg #[.slice As p.steps.length cs, .int .i64 p.hold, .int .i64 p.calm, .int .i64 p.notice, .int .i64 p.grace], .slice A days.length c, .int .i64 day, .int .i64 step, .agg #[.int .i64 lo, .int .i64 hi]] w (ShowsPost w p days day step lo hi) := by
  have hm : days.length ≤ 9223372036854775807 := by omega
  obtain ⟨er, her⟩ : ∃ er, er = startS p days := ⟨_, rfl⟩
  have b0 : ∀ o o', Below w.heap.size w ((w.alloc o).alloc o') := fun o o' => ((Below.refl _ _).alloc (Nat.le_refl _) _).alloc (by simp) _
  have hst : Calls Tryz.prog 65 #[.agg #[.slice As p.steps.length cs, .int .i64 p.hold, .int .i64 p.calm, .int .i64 p.notice, .int .i64 p.grace], .slice A days.length c]
      ((w.alloc (.cells #[.slice As p.steps.length cs, .int .i64 p.hold, .int .i64 p.calm, .int .i64 p.notice, .int .i64 p.grace] 25)).alloc (.cells #[.int .i64 lo, .int .i64 hi] 33))
      fun e w1 => ∃ pp, e = .returned (.tuple #[.agg #[.pointer pp], .int .i64 er]) ∧ (Below w.heap.size w w1 ∧ w.heap.size + 2 ≤ w1.heap.size) ∧ (er = 0 → ∃ pb, pp = some ⟨pb, 0, none⟩ ∧ PolAt w1 pb p) ∧
        (w1.cell? ⟨w.heap.size, 0, none⟩ = some (.slice As p.steps.length cs) ∧ w1.cell? ⟨w.heap.size + 1, 0, none⟩ = some (.int .i64 lo) ∧ w1.cell? ⟨w.heap.size + 1, 1, none⟩ = some (.int .i64 hi)) := by
    refine (start8_any As cs p A c days _ ⟨hp.1, hp.2.1, hp.2.2.below (b0 _ _)⟩ (hr.below (b0 _ _)) hm).mono ?_
    rintro e w1 ⟨pp, rfl, hB, h0, _⟩
    have fv : ∀ j, w1.cell? ⟨w.heap.size + 1, j, none⟩ = (#[Value.int .i64 lo, .int .i64 hi] : Array Value)[j]? := by
      intro j
      rw [hB.cell (p := ⟨w.heap.size + 1, j, none⟩) (by simp)]
      have := World.cell?_alloc_new (w.alloc (.cells #[.slice As p.steps.length cs, .int .i64 p.hold, .int .i64 p.calm, .int .i64 p.notice, .int .i64 p.grace] 25)) #[Value.int .i64 lo, .int .i64 hi] 33 j
      rw [World.size_alloc] at this
      exact this
    have fp : w1.cell? ⟨w.heap.size, 0, none⟩ = some (.slice As p.steps.length cs) := by
      rw [hB.cell (p := ⟨w.heap.size, 0, none⟩) (by simp; omega), World.cell?_alloc_lt _ _ _ (by simp), World.cell?_alloc_new]; rfl
    exact ⟨pp, by rw [her], ⟨(b0 _ _).trans (hB.mono (by simp; omega)), by have := hB.size; simp at this; omega⟩, fun h => h0 (her.symm.trans h), fp, (fv 0).trans rfl, (fv 1).trans rfl⟩
  have HP := Lib.hid (And.intro her (And.intro hr hst))
  have hpl := hp.1
  have hpm := hp.2.1
  unfold maxLen at hpm
  clear her hst b0 hr hp
  by_cases h0 : er = 0
  · subst h0
    have hs0 : startS p days = 0 := HP.out.1.symm
    obtain ⟨hck, hl4, _⟩ := start_ok hs0
    have HC := Lib.hid (check_ok hck)
    have hne : ((0 : Int) != 0) = false := rfl
    have HK := Lib.hid hs0
    clear hs0 hck
    obtain ⟨dr, hdr⟩ : ∃ dr, dr = within day 0 ((days.length : Int) - 1) := ⟨_, rfl⟩
    obtain ⟨sr, hsr⟩ : ∃ sr, sr = within step 0 ((p.steps.length : Int) - 1) := ⟨_, rfl⟩
    have hin : ∀ wx, Calls Tryz.prog 69 #[.int .i64 day, .int .i64 0, .int .i64 ((days.length : Int) - 1)] wx fun e w' => e = .returned (.bool dr) ∧ wx = w' := fun wx => by rw [hdr]; exact within_any day 0 _ wx
    have hin2 : ∀ wx, Calls Tryz.prog 69 #[.int .i64 step, .int .i64 0, .int .i64 ((p.steps.length : Int) - 1)] wx fun e w' => e = .returned (.bool sr) ∧ wx = w' := fun wx => by rw [hsr]; exact within_any step 0 _ wx
    have HD := Lib.hid (And.intro hdr (And.intro hsr (And.intro hin hin2)))
    clear hdr hin hsr hin2
    cases dr
    · go_enter Tryz.func34, Tryz.ntmps34
      go_wp2_with fail
      refine HP.out.2.2.mono ?_
      rintro e w1 ⟨pp, rfl, hB, _, f0, f1, f2⟩
      have HB := Lib.hid hB
      clear hB
      go_wp2_with fail
      refine (HD.out.2.2.1 _).mono ?_
      rintro e w2 ⟨rfl, rfl⟩
      go_wp2_with fail
      go_ret2
      have he : shE p days day step = 6 := sh_day HK.out HD.out.1.symm
      refine ⟨by rw [shB, he]; rfl, HB.out.1.alloc (by have := HB.out.2; omega) _⟩
    · cases sr
      · go_enter Tryz.func34, Tryz.ntmps34
        go_wp2_with fail
        refine HP.out.2.2.mono ?_
        rintro e w1 ⟨pp, rfl, hB, _, f0, f1, f2⟩
        have HB := Lib.hid hB
        have zz : w.heap.size < w1.heap.size := by have := hB.2; omega
        clear hB
        go_wp2_with fail
        refine (HD.out.2.2.1 _).mono ?_
        rintro e w2 ⟨rfl, rfl⟩
        go_wp2_with fail
        refine (HD.out.2.2.2 _).mono ?_
        rintro e w2 ⟨rfl, rfl⟩
        go_wp2_with fail
        go_ret2
        have he : shE p days day step = 1 := sh_step HK.out HD.out.1.symm HD.out.2.1.symm
        refine ⟨by rw [shB, he]; rfl, HB.out.1.alloc (by have := HB.out.2; omega) _⟩
      · have hlt : 0 ≤ day ∧ day < days.length := by have := HD.out.1; simp [within] at this; omega
        have hlt2 : 0 ≤ step ∧ step < p.steps.length := by have := HD.out.2.1; simp [within] at this; omega
        obtain ⟨d, rfl⟩ : ∃ k : Nat, day = k := ⟨day.toNat, by omega⟩
        obtain ⟨j, rfl⟩ : ∃ k : Nat, step = k := ⟨step.toNat, by omega⟩
        have hdl : d < days.length := by omega
        have hjl : j < p.steps.length := by omega
        clear hlt hlt2
        go_enter Tryz.func34, Tryz.ntmps34
        go_wp2_with fail
        refine HP.out.2.2.mono ?_
        rintro e w1 ⟨pp, rfl, hB, h0, f0, f1, f2⟩
        obtain ⟨pb, rfl, hpol⟩ := h0 trivial
        have HB := Lib.hid (And.intro hB hpol)
        have zz : w.heap.size + 1 < w1.heap.size := by have := hB.2; omega
        have zz0 : w.heap.size < w1.heap.size := by omega
        clear hB hpol h0
        go_wp2_with fail
        refine (HD.out.2.2.1 _).mono ?_
        rintro e w2 ⟨rfl, rfl⟩
        go_wp2_with fail
        refine (HD.out.2.2.2 _).mono ?_
        rintro e w2 ⟨rfl, rfl⟩
        go_wp2_with fail
        obtain ⟨W, hW⟩ : ∃ W, W = w1.alloc (.cells #[.pointer (some ⟨pb, 0, none⟩)] 132) := ⟨_, rfl⟩
        have e8 : W.cell? ⟨w1.heap.size, 0, none⟩ = some (.pointer (some ⟨pb, 0, none⟩)) := by rw [hW]; exact cell_new_one _ _ _
        have b1W : Below w1.heap.size w1 W := by rw [hW]; exact (Below.refl _ _).alloc (Nat.le_refl _) _
        have bW : Below w.heap.size w W := HB.out.1.1.trans (b1W.mono HB.out.1.1.size)
        have pW : PolAt W pb p := HB.out.2.below b1W
        have zW : w1.heap.size < W.heap.size := by rw [hW]; simp
        have g1 := (b1W.cell (p := ⟨w.heap.size + 1, 0, none⟩) zz).trans f1
        have g2 := (b1W.cell (p := ⟨w.heap.size + 1, 1, none⟩) zz).trans f2
        rw [← hW]
        generalize hs1 : w1.heap.size = s1 at e8 zW zz zz0 ⊢
        generalize hs2 : w.heap.size + 1 = s2 at g1 g2 zz ⊢
        have z2 : s2 < W.heap.size := by omega
        have HW := Lib.hid (And.intro bW (And.intro pW (HP.out.2.1.below bW)))
        clear hW b1W bW pW HB f0 f1 f2 zz zz0 hs1 hs2
        go_region_held3 (fun w' => w'.cell? ⟨s1, 0, none⟩ = some (.pointer (some ⟨pb, 0, none⟩)) ∧ w'.cell? ⟨s2, 0, none⟩ = some (.int .i64 lo) ∧ w'.cell? ⟨s2, 1, none⟩ = some (.int .i64 hi)) (first | exact ⟨e8, g1, g2⟩ | exact ⟨e82, g12, g22⟩ | exact ⟨e83, g13, g23⟩)
          (first
            | (go_at_call 81
               refine (kept_any pb p A c days W.drew (HW.out.2.1.below (Below.refl _ _).drew) ⟨HC.out.2.2.2.2.1, by have := HC.out.2.2.2.2.2.1; omega⟩ (HW.out.2.2.below (Below.refl _ _).drew) (by omega)).mono ?_
               rintro e w2 ⟨A2, c2, q2, rfl, o2, n2, b2⟩
               have e82 := (b2.cell (p := ⟨s1, 0, none⟩) zW).trans e8
               have g12 := (b2.cell (p := ⟨s2, 0, none⟩) z2).trans g1
               have g22 := (b2.cell (p := ⟨s2, 1, none⟩) z2).trans g2
               have z22 : s2 < w2.heap.size := Nat.lt_of_lt_of_le z2 b2.size
               have z12 : s1 < w2.heap.size := Nat.lt_of_lt_of_le zW b2.size
               have B2 := Lib.hid (And.intro o2 b2)
               clear o2 n2 b2)
            | (go_at_call 82
               refine (shows_all pb p A c days A2 c2 (keptS p days) d j lo hi w2 (HW.out.2.1.below ((Below.refl _ _).drew.trans B2.out.2)) ⟨HC.out.2.2.1, by have := HC.out.2.2.2.1; omega⟩ (HW.out.2.2.below ((Below.refl _ _).drew.trans B2.out.2)) hcc B2.out.1.rd ⟨B2.out.1.ge, B2.out.1.cap⟩ (by omega) hdl hjl hhi).mono ?_
               rintro e w3 ⟨rfl, b3⟩
               have e83 := (b3.cell (p := ⟨s1, 0, none⟩) z12).trans e82
               have g13 := (b3.cell (p := ⟨s2, 0, none⟩) z22).trans g12
               have g23 := (b3.cell (p := ⟨s2, 1, none⟩) z22).trans g22
               have B3 := Lib.hid b3
               clear b3))
        go_wp2_with fail
        go_ret2
        have he : shE p days d j = 0 := sh_ok HK.out HD.out.1.symm HD.out.2.1.symm
        refine ⟨by rw [shB, he]; rfl, ?_⟩
        have b4 : Below W.heap.size W w3 := (Below.refl _ _).drew.trans (B2.out.2.trans (B3.out.mono B2.out.2.size))
        exact HW.out.1.trans (b4.mono HW.out.1.size)
  · have hne : (er != 0) = true := by simp [h0]
    have hs0 : startS p days ≠ 0 := fun h => h0 (HP.out.1.trans h)
    have HK := Lib.hid (And.intro hs0 h0)
    clear hs0 h0
    go_enter Tryz.func34, Tryz.ntmps34
    go_wp2_with fail
    refine HP.out.2.2.mono ?_
    rintro e w1 ⟨pp, rfl, hB, _⟩
    have HB := Lib.hid hB
    clear hB
    go_wp2_with fail
    go_ret2
    have he : shE p days day step = er := (sh_start HK.out.1).trans HP.out.1.symm
    refine ⟨by rw [shB, he, if_neg HK.out.2]; rfl, HB.out.1.alloc (by have := HB.out.2; omega) _⟩
theorem Shows_any (As : Option Addr) (cs : Nat) (p : Pol) (A : Option Addr) (c : Nat) (days : List Int) (day step lo hi : Int) (w : World) (hp : PolV w As cs p) (hr : Rd w 1 A days.length (ints days)) (hcc : days.length ≤ c ∧ c ≤ 9223372036854775807) (hhi : -4000000000000000000 ≤ hi) :
    Calls Tryz.prog 34 #[.agg #[.slice As p.steps.length cs, .int .i64 p.hold, .int .i64 p.calm, .int .i64 p.notice, .int .i64 p.grace], .slice A days.length c, .int .i64 day, .int .i64 step, .agg #[.int .i64 lo, .int .i64 hi]] w (ShowsPost w p days day step lo hi) :=
  Shows_all As cs p A c days day step lo hi w hp hr hcc (by omega)
end Go.Proofs.YtbgnkljjgfcngaaGreat
/- polynyaref08: Raised -/
namespace Go.Proofs.YtbgnkljjgfcngaaGreat
open Go Go.RowKit Sp
set_option linter.unusedVariables false

/-- the reference's policy in its block, its steps and the history, at each world behind -/
structure RD (w W : World) (ob : Nat) (As : Option Addr) (cs : Nat) (p : Pol) (A : Option Addr) (days : List Int) : Prop where
  blk : W.heap[ob]? = some (.cells #[.slice As p.steps.length cs, .int .i64 p.hold, .int .i64 p.calm, .int .i64 p.notice, .int .i64 p.grace] 65 (0, 0))
  pol : PolV W As cs p
  dys : Rd W 1 A days.length (ints days)
  bel : Below w.heap.size w W
section
variable {w W X : World} {ob : Nat} {As : Option Addr} {cs : Nat} {p : Pol} {A : Option Addr} {days : List Int}
theorem RD.new (hp : PolV w As cs p) (hd : Rd w 1 A days.length (ints days)) : RD w (w.alloc (.cells #[.slice As p.steps.length cs, .int .i64 p.hold, .int .i64 p.calm, .int .i64 p.notice, .int .i64 p.grace] 65)) w.heap.size As cs p A days := by
  have b : ∀ o, Below w.heap.size w (w.alloc o) := fun o => (Below.refl _ _).alloc (Nat.le_refl _) _
  exact ⟨heap_alloc_new _ _, ⟨hp.1, hp.2.1, hp.2.2.below (b _)⟩, hd.below (b _), b _⟩
theorem RD.below (h : RD w W ob As cs p A days) (hb : Below W.heap.size W X) : RD w X ob As cs p A days :=
  ⟨(hb.block _ (heap_lt h.blk)).trans h.blk, ⟨h.pol.1, h.pol.2.1, h.pol.2.2.below hb⟩, h.dys.below hb, h.bel.trans (hb.mono h.bel.size)⟩
theorem RD.cells (h : RD w W ob As cs p A days) : W.cell? ⟨ob, 0, none⟩ = some (.slice As p.steps.length cs) ∧ W.cell? ⟨ob, 1, none⟩ = some (.int .i64 p.hold) ∧ W.cell? ⟨ob, 2, none⟩ = some (.int .i64 p.calm) ∧ W.cell? ⟨ob, 3, none⟩ = some (.int .i64 p.notice) ∧ W.cell? ⟨ob, 4, none⟩ = some (.int .i64 p.grace) ∧ ob < W.heap.size :=
  ⟨(cell_of_heap h.blk 0).trans rfl, (cell_of_heap h.blk 1).trans rfl, (cell_of_heap h.blk 2).trans rfl, (cell_of_heap h.blk 3).trans rfl, (cell_of_heap h.blk 4).trans rfl, heap_lt h.blk⟩
theorem RD.day (h : RD w W ob As cs p A days) {k : Nat} (hk : k < days.length) : ∃ b off, A = some ⟨b, off, none⟩ ∧ W.cell? ⟨b, off + k, none⟩ = some (.int .i64 (days.getD k 0)) := by
  obtain ⟨b, off, e, _, hc⟩ := h.dys.2 (by omega)
  exact ⟨b, off, e, hc k _ (ints_get hk)⟩
theorem RD.step (h : RD w W ob As cs p A days) {k : Nat} (hk : k < p.steps.length) : ∃ b off, As = some ⟨b, off, none⟩ ∧ b < W.heap.size ∧ W.cell? ⟨b, off + k * 4, none⟩ = some (.int .i64 (stp p k).cls) ∧ W.cell? ⟨b, off + k * 4 + 1, none⟩ = some (.int .i64 (stp p k).ton) ∧ W.cell? ⟨b, off + k * 4 + 2, none⟩ = some (.int .i64 (stp p k).up) ∧ W.cell? ⟨b, off + k * 4 + 3, none⟩ = some (.int .i64 (stp p k).dn) := by
  obtain ⟨b, off, e, hb, hc⟩ := h.pol.2.2.2 (by omega)
  obtain ⟨a0, a1, a2, a3⟩ := stcs_get hk
  have hs : p.steps[k] = stp p k := by rw [stp, List.getD_eq_getElem?_getD, List.getElem?_eq_getElem hk]; rfl
  rw [hs] at a0 a1 a2 a3
  exact ⟨b, off, e, hb, hc _ _ a0, by rw [Nat.add_assoc]; exact hc _ _ a1, by rw [Nat.add_assoc]; exact hc _ _ a2, by rw [Nat.add_assoc]; exact hc _ _ a3⟩
end

set_option maxRecDepth 100000 in
set_option maxHeartbeats 2000000 in
theorem rRaised_any (As : Option Addr) (cs : Nat) (p : Pol) (A : Option Addr) (c : Nat) (days : List Int) (day : Nat) (w : World) (hp : PolV w As cs p) (hr : Rd w 1 A days.length (ints days)) (hc : checkS p = 0) (hd : day < days.length) (hl : days.length ≤ 400) :
    Calls Tryz.prog 112 #[.agg #[.slice As p.steps.length cs, .int .i64 p.hold, .int .i64 p.calm, .int .i64 p.notice, .int .i64 p.grace], .slice A days.length c, .int .i64 day] w fun e w' => e = .returned (.int .i64 ((raisedS p days).getD day 0)) ∧ Below w.heap.size w w' := by
  have rd0 := RD.new (A := A) (days := days) hp hr
  obtain ⟨ck1, ck2, ck3, ck4, _⟩ := check_ok hc
  have hne : 1 ≤ p.steps.length := List.length_pos_iff.2 ck1
  have HC := Lib.hid hc
  obtain ⟨W, hW⟩ : ∃ W, W = w.alloc (.cells #[.slice As p.steps.length cs, .int .i64 p.hold, .int .i64 p.calm, .int .i64 p.notice, .int .i64 p.grace] 65) := ⟨_, rfl⟩
  obtain ⟨ob, hob⟩ : ∃ ob, ob = w.heap.size := ⟨_, rfl⟩
  rw [← hW, ← hob] at rd0
  have HR := Lib.hid rd0
  clear hp hr hc ck1 rd0
  go_enter Tryz.func112, Tryz.ntmps112
  go_wp2_with fail
  rw [← hW, ← hob]
  clear hW hob
  go_loopw [7, 8] (fun o i wr => ∃ k : Nat, k + 1 ≤ p.steps.length ∧ i = .int .i64 ((k : Int) + 1) ∧ o = .int .i64 (rRN p days day k) ∧ Below W.heap.size W wr) (fun _ i _ => p.steps.length - (intOf i).toNat)
  case atStart => exact ⟨0, hne, rfl, rfl, Below.refl _ _⟩
  case round =>
    obtain ⟨k, hk, rfl, rfl, hb⟩ := hrel
    obtain ⟨o, ho⟩ : ∃ o, o = rRN p days day k := ⟨_, rfl⟩
    rw [← ho]
    have rdw := HR.out.below hb
    obtain ⟨q0, q1, q2, q3, q4, zp⟩ := rdw.cells
    have HB := Lib.hid (And.intro hb (And.intro ho rdw))
    clear hb ho rdw
    by_cases hlt : k + 1 < p.steps.length
    · obtain ⟨lo, hlo⟩ : ∃ lo, lo = loD day p.hold := ⟨_, rfl⟩
      have hl2 := loD_le (day := day) ck3
      rw [← hlo] at hl2
      have hm : (if (0 : Int) < (day : Int) - p.hold + 1 then (day : Int) - p.hold + 1 else 0) = lo := by rw [hlo, loD]; split <;> omega
      have HLO := Lib.hid hlo
      have HM := Lib.hid hm
      clear hlo hm
      obtain ⟨u, hu⟩ : ∃ u, u = (stp p (k + 1)).up := ⟨_, rfl⟩
      have HU := Lib.hid hu
      clear hu
      have step : ∀ d : Nat, lo ≤ d → cntN days u lo (d + 1 - lo) = if u ≤ days.getD d 0 then cntN days u lo (d - lo) + 1 else cntN days u lo (d - lo) := fun d h => by
        rw [show d + 1 - lo = (d - lo) + 1 from by omega, cntN, show lo + (d - lo) = d from by omega]
      have HST := Lib.hid step
      clear step
      by_cases hw : (0 : Int) < (day : Int) - p.hold + 1
      all_goals
        have hle : lo ≤ day := hl2.1
        go_wp2_with fail
        obtain ⟨wo, rfl⟩ : ∃ wo : World, wo = wr := ⟨_, rfl⟩
        go_loopw [9, 10] (fun n i wr => ∃ d : Nat, lo ≤ d ∧ d ≤ day + 1 ∧ i = .int .i64 d ∧ n = .int .i64 (cntN days u lo (d - lo)) ∧ Below W.heap.size W wr) (fun _ i _ => (day : Int).toNat + 1 - (intOf i).toNat)
        case atStart => exact ⟨lo, Nat.le_refl _, by omega, by first | (congr 1; have := HLO.out; unfold loD at this; omega) | (congr 1; omega), by rw [Nat.sub_self]; rfl, HB.out.1⟩
        case round =>
          obtain ⟨d, hd1, hd2, rfl, rfl, hb⟩ := hrel
          obtain ⟨n, hn⟩ : ∃ n, n = cntN days u lo (d - lo) := ⟨_, rfl⟩
          have hnr := cntN_range days u lo (d - lo)
          rw [← hn] at hnr ⊢
          have rdw := HR.out.below hb
          obtain ⟨q0, q1, q2, q3, q4, zp⟩ := rdw.cells
          have HB2 := Lib.hid (And.intro hb (And.intro hn rdw))
          clear hb hn rdw
          by_cases hdd : d ≤ day
          · obtain ⟨bd, od, rfl, cd⟩ := HB2.out.2.2.day (k := d) (by omega)
            obtain ⟨bs, os, rfl, _, _, _, c2, _⟩ := HB2.out.2.2.step (k := k + 1) hlt
            rw [← HU.out] at c2
            obtain ⟨x, hx⟩ : ∃ x, x = days.getD d 0 := ⟨_, rfl⟩
            rw [← hx] at cd
            have n1 : (0 : Int) ≤ (d : Int) := by omega
            have n2 : (d : Int) < (days.length : Int) := by omega
            have n3 : (0 : Int) ≤ (k : Int) + 1 := by omega
            have n4 : (k : Int) + 1 < (p.steps.length : Int) := by omega
            have n5 : ((k : Int) + 1).toNat = k + 1 := by omega
            have HX := Lib.hid hx
            clear hx
            by_cases hux : u ≤ x
            · have hdec : decide (u ≤ x) = true := by simpa using hux
              go_upto_region 9 with fail
              go_quiet (fail)
              go_wp2_with fail
              go_roundw
              case measure => simp [intOf]; omega
              case rel => exact ⟨d + 1, by omega, by omega, by go_num, by rw [HST.out d hd1, ← HX.out, if_pos hux, ← HB2.out.2.1], below_drewN HB2.out.1 _⟩
            · have hdec : decide (u ≤ x) = false := by simpa using hux
              go_upto_region 9 with fail
              go_quiet (fail)
              go_wp2_with fail
              go_roundw
              case measure => simp [intOf]; omega
              case rel => exact ⟨d + 1, by omega, by omega, by go_num, by rw [HST.out d hd1, ← HX.out, if_neg hux, ← HB2.out.2.1], below_drewN HB2.out.1 _⟩
          · obtain rfl : d = day + 1 := by omega
            by_cases hnh : n = p.hold
            · have hnb : (n == p.hold) = true := by simpa using hnh
              go_wp2_with fail
              go_roundw
              case measure => simp [intOf]; omega
              case rel => exact ⟨k + 1, by omega, by go_num, by rw [rRN, ← HU.out, ← HLO.out, ← HB2.out.2.1, if_pos hnh]; go_num, HB2.out.1⟩
            · have hnb : (n == p.hold) = false := by simpa using hnh
              go_wp2_with fail
              go_roundw
              case measure => simp [intOf]; omega
              case rel => exact ⟨k + 1, by omega, by go_num, by rw [rRN, ← HU.out, ← HLO.out, ← HB2.out.2.1, if_neg hnh, ← HB.out.2.1], HB2.out.1⟩
    · obtain rfl : k = p.steps.length - 1 := by omega
      go_wp2_with fail
      go_ret
      exact ⟨by rw [HB.out.2.1, rRN_raised HC.out hd]; rfl, HB.out.2.2.bel⟩
end Go.Proofs.YtbgnkljjgfcngaaGreat
