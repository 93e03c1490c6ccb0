/- the walk of awake (printed by wip/tools/awake.py) -/
import Derived.Test.YtfmhlnfcbbpfeaaAwakeB
namespace Go.Proofs.Ytfmhlnfcbbpfeaa
open Go Go.RowKit Sp

theorem PolV.below {w w' : World} {A : Option Addr} {c : Nat} {p : Pol} (h : PolV w A c p) (hb : Below w.heap.size w w') : PolV w' A c p := ⟨h.1, h.2.1, h.2.2.below hb⟩

abbrev VS (vb : Nat) (w : World) : Prop := vb < w.heap.size ∧ w.cell? ⟨vb, 0, none⟩ = some (.int .i64 1) ∧ w.cell? ⟨vb, 1, none⟩ = some (.int .i64 2500) ∧ w.cell? ⟨vb, 2, none⟩ = some (.bool true)
theorem vs_alloc {vb : Nat} {w : World} (h : VS vb w) (o : Obj) : VS vb (w.alloc o) := ⟨by have := h.1; simp; omega, (World.cell?_alloc_lt w o ⟨vb, 0, none⟩ h.1).trans h.2.1, (World.cell?_alloc_lt w o ⟨vb, 1, none⟩ h.1).trans h.2.2.1, (World.cell?_alloc_lt w o ⟨vb, 2, none⟩ h.1).trans h.2.2.2⟩
theorem vs_below {vb : Nat} {w w' : World} (h : VS vb w) (hb : Below w.heap.size w w') : VS vb w' := ⟨Nat.lt_of_lt_of_le h.1 hb.size, (hb.cell (p := ⟨vb, 0, none⟩) h.1).trans h.2.1, (hb.cell (p := ⟨vb, 1, none⟩) h.1).trans h.2.2.1, (hb.cell (p := ⟨vb, 2, none⟩) h.1).trans h.2.2.2⟩

set_option maxRecDepth 100000 in
set_option maxHeartbeats 8000000 in
theorem awake_any (w : World) : Calls Try.prog 16 #[] w fun e w' => e = .returned (.bool true) ∧ Below w.heap.size w w' := by
  go_enter Try.func16, Try.ntmps16
  go_upto_region 2 with (first
    | (go_at_call 79; refine (Example_any _).mono ?_; rintro e wa ⟨ba, rfl, hp, b1⟩)
    | (go_at_call 80; refine (winter_any _).mono ?_; rintro e wb ⟨bb, rfl, hd, b2⟩)
    | (go_at_call 19; refine (dec_ex ba bb _ (hp.below b2) hd).mono ?_; rintro e w1 ⟨A1, c1, rfl, r1, b3⟩))
  have bS : Below w.heap.size w w1 := b1.trans ((b2.mono b1.size).trans (b3.mono (Nat.le_trans b1.size b2.size)))
  have B1 : Below w.heap.size w w1 := bS
  clear b1 b2 b3 hp hd bS
  go_upto_region 3 with (first
    | (go_at_call 79; refine (Example_any _).mono ?_; rintro e wa ⟨ba, rfl, hp, b1⟩)
    | (go_at_call 80; refine (winter_any _).mono ?_; rintro e wb ⟨bb, rfl, hd, b2⟩)
    | (go_at_call 21; refine (for_ex ba bb _ (hp.below b2) hd).mono ?_; rintro e w2 ⟨A2, c2, rfl, r2, b3⟩))
  have bS : Below w1.heap.size w1 w2 := b1.trans ((b2.mono b1.size).trans (b3.mono (Nat.le_trans b1.size b2.size)))
  have B2 : Below w.heap.size w w2 := B1.trans (bS.mono B1.size)
  have r1 := r1.below bS
  clear b1 b2 b3 hp hd bS B1
  go_upto_region 4 with (first
    | (go_at_call 79; refine (Example_any _).mono ?_; rintro e wa ⟨ba, rfl, hp, b1⟩)
    | (go_at_call 80; refine (winter_any _).mono ?_; rintro e wb ⟨bb, rfl, hd, b2⟩)
    | (go_at_call 22; refine (ord_ex ba bb _ (hp.below b2) hd).mono ?_; rintro e w3 ⟨A3, c3, rfl, r3, b3⟩))
  have bS : Below w2.heap.size w2 w3 := b1.trans ((b2.mono b1.size).trans (b3.mono (Nat.le_trans b1.size b2.size)))
  have B3 : Below w.heap.size w w3 := B2.trans (bS.mono B2.size)
  have r1 := r1.below bS
  have r2 := r2.below bS
  clear b1 b2 b3 hp hd bS B2
  go_upto_region 5 with (first
    | (go_at_call 79; refine (Example_any _).mono ?_; rintro e wa ⟨ba, rfl, hp, b1⟩)
    | (go_at_call 80; refine (winter_any _).mono ?_; rintro e wb ⟨bb, rfl, hd, b2⟩)
    | (go_at_call 18; refine (wit_ex ba bb _ (hp.below b2) hd).mono ?_; rintro e w4 ⟨rfl, b3⟩))
  have bS : Below w3.heap.size w3 w4 := b1.trans ((b2.mono b1.size).trans (b3.mono (Nat.le_trans b1.size b2.size)))
  have B4 : Below w.heap.size w w4 := B3.trans (bS.mono B3.size)
  have r1 := r1.below bS
  have r2 := r2.below bS
  have r3 := r3.below bS
  clear b1 b2 b3 hp hd bS B3
  obtain ⟨w4x, hw4⟩ : ∃ W, W = w4.alloc (.cells #[.int .i64 2, .int .i64 3] 42) := ⟨_, rfl⟩
  rw [← hw4]
  have bS : Below w4.heap.size w4 w4x := by rw [hw4]; exact (Below.refl _ _).alloc (Nat.le_refl _) _
  have s0 : w4x.cell? ⟨w4.heap.size, 0, none⟩ = some (.int .i64 2) := by rw [hw4, World.cell?_alloc_new]; rfl
  have s1 : w4x.cell? ⟨w4.heap.size, 1, none⟩ = some (.int .i64 3) := by rw [hw4, World.cell?_alloc_new]; rfl
  have sz : w4.heap.size < w4x.heap.size := by rw [hw4]; simp
  have B4x : Below w.heap.size w w4x := B4.trans (bS.mono B4.size)
  have r1 := r1.below bS
  have r2 := r2.below bS
  have r3 := r3.below bS
  generalize hsb : w4.heap.size = sb at s0 s1 sz ⊢
  clear hw4 bS B4 hsb
  go_upto_region 6 with (first
    | (go_at_call 79; refine (Example_any _).mono ?_; rintro e wa ⟨ba, rfl, hp, b1⟩)
    | (go_at_call 80; refine (winter_any _).mono ?_; rintro e wb ⟨bb, rfl, hd, b2⟩)
    | (go_at_call 26; refine (win_ex ba bb _ (hp.below b2) hd).mono ?_; rintro e w5 ⟨A5, c5, rfl, r5, b3⟩))
  have bS : Below w4x.heap.size w4x w5 := b1.trans ((b2.mono b1.size).trans (b3.mono (Nat.le_trans b1.size b2.size)))
  have B5 : Below w.heap.size w w5 := B4x.trans (bS.mono B4x.size)
  have r1 := r1.below bS
  have r2 := r2.below bS
  have r3 := r3.below bS
  have s0 := (bS.cell (p := ⟨sb, 0, none⟩) sz).trans s0
  have s1 := (bS.cell (p := ⟨sb, 1, none⟩) sz).trans s1
  have sz : sb < w5.heap.size := Nat.lt_of_lt_of_le sz bS.size
  clear b1 b2 b3 hp hd bS B4x
  go_upto_region 7 with fail
  obtain ⟨w6, hw6⟩ : ∃ W, W = w5.alloc (.cells #[.int .i64 1, .int .i64 2500, .bool true] 33) := ⟨_, rfl⟩
  rw [← hw6]
  have bS : Below w5.heap.size w5 w6 := by rw [hw6]; exact (Below.refl _ _).alloc (Nat.le_refl _) _
  have v0 : w6.cell? ⟨w5.heap.size, 0, none⟩ = some (.int .i64 1) := by rw [hw6, World.cell?_alloc_new]; rfl
  have v1 : w6.cell? ⟨w5.heap.size, 1, none⟩ = some (.int .i64 2500) := by rw [hw6, World.cell?_alloc_new]; rfl
  have v2 : w6.cell? ⟨w5.heap.size, 2, none⟩ = some (.bool true) := by rw [hw6, World.cell?_alloc_new]; rfl
  have vz : w5.heap.size < w6.heap.size := by rw [hw6]; simp
  have B6 : Below w.heap.size w w6 := B5.trans (bS.mono B5.size)
  have s0 := (bS.cell (p := ⟨sb, 0, none⟩) sz).trans s0
  have s1 := (bS.cell (p := ⟨sb, 1, none⟩) sz).trans s1
  have sz : sb < w6.heap.size := Nat.lt_of_lt_of_le sz bS.size
  have r1 := r1.below bS
  have r2 := r2.below bS
  have r3 := r3.below bS
  have r5 := r5.below bS
  generalize hvb : w5.heap.size = vb at v0 v1 v2 vz ⊢
  clear hw6 bS B5 hvb
  have HR := Lib.hid (And.intro r1 (And.intro r2 (And.intro r3 (And.intro r5 (And.intro s0 (And.intro s1 (And.intro sz B6)))))))
  clear r1 r2 r3 r5 s0 s1 sz B6
  have hv : VS vb w6 := ⟨vz, v0, v1, v2⟩
  clear vz v0 v1 v2
  go_region_held3 (fun w' => vb < w'.heap.size ∧ w'.cell? ⟨vb, 0, none⟩ = some (.int .i64 1) ∧ w'.cell? ⟨vb, 1, none⟩ = some (.int .i64 2500) ∧ w'.cell? ⟨vb, 2, none⟩ = some (.bool true)) (first | assumption | exact vs_alloc (by assumption) _ | exact vs_alloc (vs_below (by assumption) (Below.refl _ _).drew) _ | (simp only [World.size_drew, World.cell?_drew]; assumption))
    (first
      | (go_at_call 79; refine (Example_any _).mono ?_; rintro e wa ⟨ba, rfl, hp, b1⟩; have hva : VS vb wa := by first | exact vs_below (vs_below hv (Below.refl _ _).drew) b1 | exact vs_below (vs_alloc (vs_below hv (Below.refl _ _).drew) _) b1)
      | (go_at_call 80; refine (winter_any _).mono ?_; rintro e wb ⟨bb, rfl, hd, b2⟩; have hvb : VS vb wb := by first | exact vs_below hva b2 | exact vs_below (vs_alloc hva _) b2)
      | (go_at_call 15
         first
           | (have hp' := hp.below b2
              have hl' := (rd_lit wb 5 3 (pscs exPs) 35 rfl)
              have b0 : Below w6.heap.size w6 wb := (Below.refl _ _).drew.trans (b1.trans (b2.mono b1.size))
              have bl := (Below.refl wb.heap.size wb).alloc (Nat.le_refl _) (.cells (pscs exPs).toArray 35)
              refine (rev_ex ba bb _ (hp'.below bl) (hd.below bl) wb.heap.size hl').mono ?_
              rintro e w7 ⟨A6, c6, rfl, r6, b3⟩
              have hvc := vs_below (vs_alloc hvb _) b3
              have b4 : Below w6.heap.size w6 w7 := b0.trans ((bl.trans (b3.mono (by simp))).mono b0.size)
              clear b1 b2 b3 hp hd hp' hl' b0 bl)
           | (have hp' := hp.below b2
              have hl' := ((rd_lit w6.drew 5 3 (pscs exPs) 35 rfl).below b1).below b2
              have b0 : Below w6.heap.size w6 wb := ((Below.refl w6.heap.size w6).drew.alloc (Nat.le_refl _) _).trans ((b1.trans (b2.mono b1.size)).mono (by simp))
              refine (rev_ex ba bb _ hp' hd w6.heap.size hl').mono ?_
              rintro e w7 ⟨A6, c6, rfl, r6, b3⟩
              have hvc := vs_below hvb b3
              have b4 : Below w6.heap.size w6 w7 := b0.trans (b3.mono b0.size)
              clear b1 b2 b3 hp hd hp' hl' b0)
           | (have hp' := (hp.below ((Below.refl _ _).alloc (Nat.le_refl _) _)).below b2
              have hl' := (rd_lit wa 5 3 (pscs exPs) 35 rfl).below b2
              have ba' : Below w6.heap.size w6 wa := (Below.refl _ _).drew.trans b1
              have b0 : Below w6.heap.size w6 wb := (ba'.alloc ba'.size _).trans (b2.mono (by have := ba'.size; simp; omega))
              refine (rev_ex ba bb _ hp' hd wa.heap.size hl').mono ?_
              rintro e w7 ⟨A6, c6, rfl, r6, b3⟩
              have hvc := vs_below hvb b3
              have b4 : Below w6.heap.size w6 w7 := b0.trans (b3.mono b0.size)
              clear b1 b2 b3 hp hd hp' hl' b0 ba')))
  all_goals
    obtain ⟨r1, r2, r3, r5, s0, s1, sz, B6⟩ := HR.out
    have B7 : Below w.heap.size w w7 := B6.trans (b4.mono B6.size)
    have r1 := r1.below b4
    have r2 := r2.below b4
    have r3 := r3.below b4
    have r5 := r5.below b4
    have s0 := (b4.cell (p := ⟨sb, 0, none⟩) sz).trans s0
    have s1 := (b4.cell (p := ⟨sb, 1, none⟩) sz).trans s1
    have sz : sb < w7.heap.size := Nat.lt_of_lt_of_le sz b4.size
    clear b4 hv hva hvb hvc B6 HR
    have HR2 := Lib.hid (And.intro r1 (And.intro r2 (And.intro r3 (And.intro r5 r6))))
    clear r1 r2 r3 r5 r6
    go_wp2_with fail
    refine (eqInts_same A1 _ c1 9 9 [0, 1, 1, 2, 2, 2, 1, 0, 0] _ rfl (by decide) (HR2.out.1.below ((Below.refl _ _).alloc (Nat.le_refl _) _)) (rd_lit _ 1 9 (ints [0, 1, 1, 2, 2, 2, 1, 0, 0]) _ rfl)).mono ?_
    rintro e x1 ⟨rfl, b1⟩
    have d1 : Below w7.heap.size w7 x1 := ((Below.refl _ _).alloc (Nat.le_refl _) _).trans (b1.mono (by simp))
    have HD1 := Lib.hid d1
    clear b1 d1
    go_wp2_with fail
    refine (eqInts_same A2 _ c2 9 9 [0, 0, 1, 1, 2, 2, 1, 0, 0] _ rfl (by decide) (HR2.out.2.1.below (HD1.out.alloc HD1.out.size _)) (rd_lit _ 1 9 (ints [0, 0, 1, 1, 2, 2, 1, 0, 0]) _ rfl)).mono ?_
    rintro e x2 ⟨rfl, b2⟩
    have d2 : Below w7.heap.size w7 x2 := (HD1.out.alloc HD1.out.size _).trans (b2.mono (by have := HD1.out.size; simp; omega))
    have HD2 := Lib.hid d2
    clear b2 d2
    go_wp2_with fail
    refine (eqOrds_same A3 _ c3 4 4 [⟨1, 2, 1⟩, ⟨3, 4, 2⟩, ⟨6, 6, 1⟩, ⟨7, 7, 0⟩] _ rfl (by decide) (HR2.out.2.2.1.below (HD2.out.alloc HD2.out.size _)) (rd_lit _ 3 4 (occs [⟨1, 2, 1⟩, ⟨3, 4, 2⟩, ⟨6, 6, 1⟩, ⟨7, 7, 0⟩]) _ rfl)).mono ?_
    rintro e x3 ⟨rfl, b3⟩
    have d3 : Below w7.heap.size w7 x3 := (HD2.out.alloc HD2.out.size _).trans (b3.mono (by have := HD2.out.size; simp; omega))
    have s0' := (d3.cell (p := ⟨sb, 0, none⟩) sz).trans s0
    have s1' := (d3.cell (p := ⟨sb, 1, none⟩) sz).trans s1
    have HD3 := Lib.hid d3
    clear b3 d3
    go_wp2_with fail
    refine (eqSpans_same A5 _ c5 2 2 [(0, 3), (6, 8)] _ rfl (by decide) (HR2.out.2.2.2.1.below (HD3.out.alloc HD3.out.size _)) (rd_lit _ 2 2 (spcs [(0, 3), (6, 8)]) _ rfl)).mono ?_
    rintro e x4 ⟨rfl, b4⟩
    have d4 : Below w7.heap.size w7 x4 := (HD3.out.alloc HD3.out.size _).trans (b4.mono (by have := HD3.out.size; simp; omega))
    have HD4 := Lib.hid d4
    clear b4 d4
    go_wp2_with fail
    refine (eqInts_same A6 _ c6 3 3 [0, 2, 1] _ rfl (by decide) (HR2.out.2.2.2.2.below (HD4.out.alloc HD4.out.size _)) (rd_lit _ 1 3 (ints [0, 2, 1]) _ rfl)).mono ?_
    rintro e x5 ⟨rfl, b5⟩
    have d5 : Below w7.heap.size w7 x5 := (HD4.out.alloc HD4.out.size _).trans (b5.mono (by have := HD4.out.size; simp; omega))
    go_wp2_with fail
    go_ret
    exact ⟨rfl, B7.trans (d5.mono B7.size)⟩
end Go.Proofs.Ytfmhlnfcbbpfeaa
