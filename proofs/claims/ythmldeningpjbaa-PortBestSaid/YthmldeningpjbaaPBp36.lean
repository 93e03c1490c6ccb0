/- PortBest: the law (printed by wip/tools/ptbestl.py) -/
import Derived.Test.YthmldeningpjbaaPBp35
set_option linter.unusedVariables false
set_option linter.unusedSimpArgs false
namespace Go.Proofs.Ythmldeningpjbaa
open Go Go.RowKit Go.Lib Sp Pt
set_option linter.unusedVariables false
set_option linter.unusedSimpArgs false

set_option linter.unusedVariables false
def Bl7V (ib dl vb : Nat) (ar : Int) (s : BlS) : Nat → Value → Prop
  | 0, v => v = .pointer (some ⟨vb, 0, none⟩)
  | 1, v => v = .int .i64 ar
  | 2, v => v = .func (.func 70) #[] #[.pointer (some ⟨ib, 0, none⟩), .pointer (some ⟨dl, 0, none⟩)]
  | 3, v => v = .int .i64 s.x
  | 4, v => v = .int .i64 (ar + s.x)
  | 5, v => v = .pointer (some ⟨vb, 1, none⟩)
  | _, _ => True

set_option maxRecDepth 100000 in
set_option maxHeartbeats 4000000 in
theorem best_law (A0 : Option Addr) (c0 : Nat) (l0 : List Int) (A1 : Option Addr) (c1 : Nat) (l1 : List Int) (A2 : Option Addr) (c2 : Nat) (l2 : List Int) (w : World)
    (hr0 : Rd w 1 A0 l0.length (byts l0)) (hl0 : Bytes l0) (hm0 : l0.length ≤ 9223372036854775800) (hr1 : Rd w 1 A1 l1.length (byts l1)) (hl1 : Bytes l1) (hm1 : l1.length ≤ 9223372036854775800) (hr2 : Rd w 1 A2 l2.length (byts l2)) (hl2 : Bytes l2) (hm2 : l2.length ≤ 9223372036854775800) :
    Calls Try.prog 8 #[.slice A0 l0.length c0, .slice A1 l1.length c1, .slice A2 l2.length c2] w fun e w' => e = .returned (.bool true) ∧ Below w.heap.size w w' := by
  obtain ⟨iV0, iV1, iV2, iV3, iV4⟩ := info_parts infoVst
  have HR0 := Lib.hid (And.intro hr0 (And.intro hl0 hm0))
  have HR1 := Lib.hid (And.intro hr1 (And.intro hl1 hm1))
  have HR2 := Lib.hid (And.intro hr2 (And.intro hl2 hm2))
  clear hr0 hl0 hm0 hr1 hl1 hm1 hr2 hl2 hm2
  go_enter Try.func8, Try.ntmps8
  go_upto_region 2 with (go_at_call 12; refine (Made9_any A0 c0 l0 w HR0.out.1 HR0.out.2.1 (by have := HR0.out.2.2; omega)).mono ?_; rintro e w1 ⟨Ac, cc, Ab, cb, p, rfl, hp, PB, b1⟩; have H1 := Lib.hid (And.intro hp (And.intro PB b1)); clear hp PB b1)
  obtain ⟨pb, hpb⟩ : ∃ b, b = w1.heap.size := ⟨_, rfl⟩
  obtain ⟨X1, hX1⟩ : ∃ X, X = w1.alloc (.cells (prtV Ac cc Ab cb p) 26) := ⟨_, rfl⟩
  rw [← hX1, ← hpb]
  have S1 : Own w1.heap.size w1 [It.blk pb (.cells (prtV Ac cc Ab cb p) 26)] X1 := by rw [hX1, hpb]; exact (Own.start w1).alloc _
  have bX1 : Below w.heap.size w X1 := H1.out.2.2.trans (S1.bel.mono H1.out.2.2.size)
  have kdr := drawn_at w1.heap.size A1 c1 l1 w X1 HR1.out.1 HR1.out.2.1 HR1.out.2.2 bX1 H1.out.2.2.size S1.lo
  have HS1 := Lib.hid (And.intro S1 kdr)
  clear S1 bX1 kdr hX1 hpb
  go_upto_region 3 with (go_at_call 16; refine HS1.out.2.mono ?_; rintro e w2 ⟨ib, dl, rfl, nx1, hib, hdl, b1⟩; have S2 := Lib.hid (HS1.out.1.new b1 (i := .nx ib dl) nx1 (by simp [It.fp]; omega)); clear nx1 hib hdl b1)
  go_upto_block 0 with (go_at_call 70; refine (next_some 5 (S2.out.nxt 1 rfl) (by decide)).mono ?_; rintro e w3 ⟨nx0, rfl, ⟨nx01, nx02⟩, nx3, k3, s3⟩; have S3 := Lib.hid (S2.out.next 1 rfl nx3 k3); clear nx3 k3 s3)
  obtain ⟨nn, hnn⟩ : ∃ n : Nat, (n : Int) = nx0 := ⟨nx0.toNat, by omega⟩
  have hn4 : nn ≤ 4 := by omega
  rw [← hnn]
  clear hnn nx01 nx02
  have S4 : Own w1.heap.size w1 [It.blk pb (.cells (prtV Ac cc Ab cb p) 26), It.nx ib dl, .own 102 4 none 0 0 (vscs []) []] w3 := S3.out.new (i := .own 102 4 none 0 0 (vscs []) []) (Below.refl _ _) (OwnS.nil _ _ _) (by simp [It.fp])
  have HS4 := Lib.hid S4
  clear S4
  go_cut [9] from 32 to 54 (fun sv wx => ∃ (k : Nat) (vis : List Vst) (Av : Option Addr) (cv : Nat) (q : List Nat), vis.length = k ∧ k ≤ 4 ∧ VsOk vis ∧ sv = .slice Av k cv ∧ Own w1.heap.size w1 [It.blk pb (.cells (prtV Ac cc Ab cb p) 26), It.nx ib dl, It.own 102 4 Av k cv (vscs vis) q] wx)
  case first =>
    go_wp2_with fail
    go_loopg [9, 32] nn (fun g sv i wx => ∃ (k : Nat) (vis : List Vst) (Av : Option Addr) (cv : Nat) (q : List Nat), g + k = nn ∧ i = .int .i64 k ∧ vis.length = k ∧ VsOk vis ∧ sv = .slice Av k cv ∧ Own w1.heap.size w1 [It.blk pb (.cells (prtV Ac cc Ab cb p) 26), It.nx ib dl, It.own 102 4 Av k cv (vscs vis) q] wx)
    case atStart => exact ⟨0, [], none, 0, [], rfl, rfl, rfl, (fun v hv => by cases hv), rfl, HS4.out⟩
    case round =>
      obtain ⟨k, vis, Av, cv, q, hk, rfl, hvl, hvo, rfl, hO⟩ := hrel
      by_cases hlt : k < nn
      · have HO := Lib.hid hO
        have HV := Lib.hid (And.intro hvl hvo)
        clear hO hvl hvo
        go_wp2_with fail
        refine (next_some 20 (HO.out.nxt 1 rfl) (by decide)).mono ?_
        rintro e v4 ⟨x0, rfl, ⟨x01, x02⟩, nx3, k3, s3⟩
        have HO1 := Lib.hid (HO.out.next 1 rfl nx3 k3)
        clear nx3 k3 s3
        go_wp2_with fail
        refine (next_some 12 (HO1.out.nxt 1 rfl) (by decide)).mono ?_
        rintro e v5 ⟨x1, rfl, ⟨x11, x12⟩, nx3, k3, s3⟩
        have HO2 := Lib.hid (HO1.out.next 1 rfl nx3 k3)
        clear nx3 k3 s3
        go_wp2_with fail
        refine (next_some 150 (HO2.out.nxt 1 rfl) (by decide)).mono ?_
        rintro e v6 ⟨x2, rfl, ⟨x21, x22⟩, nx3, k3, s3⟩
        have HO3 := Lib.hid (HO2.out.next 1 rfl nx3 k3)
        clear nx3 k3 s3
        obtain ⟨vb, hvb⟩ : ∃ xb, xb = v6.heap.size := ⟨_, rfl⟩
        go_upto_region 7 with fail
        obtain ⟨sy, hsy⟩ : ∃ z, z = 1 + x1 := ⟨_, rfl⟩
        obtain ⟨dr, hdr⟩ : ∃ z, z = 200 + 4 * x2 := ⟨_, rfl⟩
        obtain ⟨ar, har⟩ : ∃ z, z = x0 := ⟨_, rfl⟩
        rw [← hsy, ← hdr, ← har]
        have hab : 0 ≤ ar ∧ ar < 20 ∧ 1 ≤ sy ∧ sy ≤ 12 ∧ 200 ≤ dr ∧ dr < 800 := by omega
        obtain ⟨X, hX⟩ : ∃ X, X = v6.alloc (.cells #[.int .i64 ar, .int .i64 0, .int .i64 sy, .int .i64 dr] 102) := ⟨_, rfl⟩
        rw [← hX, ← hvb]
        have OX : Own w1.heap.size w1 [It.blk pb (.cells (prtV Ac cc Ab cb p) 26), It.nx ib dl, It.own 102 4 Av k cv (vscs vis) q, .blk vb (.cells #[.int .i64 ar, .int .i64 0, .int .i64 sy, .int .i64 dr] 102)] X := by rw [hX, hvb]; exact HO3.out.alloc _
        have HX := Lib.hid OX
        clear OX hX hvb hsy hdr har x01 x02 x11 x12 x21 x22
        refine wp_region_steps (σ := BlS) (by kernel_rfl) (by kernel_rfl) (fun sg jx vx _ => Bl7V ib dl vb ar sg jx vx) (fun sg ly wx => Own w1.heap.size w1 [It.blk pb (.cells (prtV Ac cc Ab cb p) 26), It.nx ib dl, It.own 102 4 Av k cv (vscs vis) q, It.blk vb (.cells (if ly 6 = true then #[.int .i64 ar, .int .i64 (ar + sg.x), .int .i64 sy, .int .i64 dr] else #[.int .i64 ar, .int .i64 0, .int .i64 sy, .int .i64 dr]) 102), if ly 3 = true then It.gen [] (fun _ => 0 ≤ sg.x ∧ sg.x < 25) else noIt] wx) ⟨0, 0, 0, 0, none, 0, []⟩ ?_ ?_ ?_
        · exact HX.out.blank.drew
        · simp only [AllFrom, Nat.zero_add, Nat.reduceAdd]
          refine ⟨?_, ?_, ?_, ?_, ?_, ?_, ?_, trivial⟩
          · refine step_pure fun sg ly act wx hl hd hW hF => ?_
            have et10 := hF.old 10 (by kernel_rfl)
            simp [Act.eval] at et10
            exact ⟨hW, .pointer (some ⟨vb, 0, none⟩), by go_simp, rfl⟩
          · refine step_pure fun sg ly act wx hl hd hW hF => ?_
            simp [Region.binds] at hd
            have et44 := hF.new 0 44 (by simp [hd]) rfl
            simp [Bl7V, Act.eval] at et44
            have hO := hW
            try dsimp only at hO
            have n6 := hF.notYet 1 6 hl (by kernel_rfl)
            simp only [n6, Bool.false_eq_true, if_false, if_true] at hO
            have hh := hO.heap 3 rfl
            have clq0 := (cell_of_heap hh 0).trans rfl
            have clq1 := (cell_of_heap hh 1).trans rfl
            have clq2 := (cell_of_heap hh 2).trans rfl
            have clq3 := (cell_of_heap hh 3).trans rfl
            have zz := heap_lt hh
            exact ⟨hW, .int .i64 ar, by go_simp, rfl⟩
          · refine step_pure fun sg ly act wx hl hd hW hF => ?_
            have et8 := hF.old 8 (by kernel_rfl)
            simp [Act.eval] at et8
            exact ⟨hW, .func (.func 70) #[] #[.pointer (some ⟨ib, 0, none⟩), .pointer (some ⟨dl, 0, none⟩)], by go_simp, rfl⟩
          · refine step_call fun sg ly act wx hl hd hW hF => ?_
            simp [Region.binds] at hd
            have et46 := hF.new 2 46 (by simp [hd]) rfl
            simp [Bl7V, Act.eval] at et46
            have n4 := hF.notYet 3 4 hl (by kernel_rfl)
            have n6 := hF.notYet 3 6 hl (by kernel_rfl)
            have hO := hW
            try dsimp only at hO
            simp only [hl, n4, n6, Bool.false_eq_true, if_false, if_true] at hO
            refine ⟨70, #[.int .i64 (25), .pointer (some ⟨ib, 0, none⟩), .pointer (some ⟨dl, 0, none⟩)], by go_simp, ?_⟩
            refine (next_some (25) (hO.nxt 1 rfl) (by decide)).mono ?_
            rintro e w2 ⟨x, rfl, hx, nx3, k3, s3⟩
            have hN := (hO.next 1 rfl nx3 k3).newG 4 rfl (q := []) (P := fun _ => 0 ≤ x ∧ x < 25) (Below.refl _ _) ⟨by simp, fun _ _ _ _ => hx⟩ (by simp)
            refine ⟨.int .i64 x, { sg with x := x }, rfl, ?_, rfl, ?_⟩
            · simpa [upd, n4, n6] using hN
            · intro i u hi h
              have i3 : i ≠ 3 := by rintro rfl; rw [hl] at hi; cases hi
              have i4 : i ≠ 4 := by rintro rfl; rw [n4] at hi; cases hi
              have i6 : i ≠ 6 := by rintro rfl; rw [n6] at hi; cases hi
              unfold Bl7V at h ⊢
              split at h <;> first | exact h | exact absurd rfl i3 | exact absurd rfl i4 | exact absurd rfl i6
          · refine step_pure fun sg ly act wx hl hd hW hF => ?_
            simp [Region.binds] at hd
            have et45 := hF.new 1 45 (by simp [hd]) rfl
            simp [Bl7V, Act.eval] at et45
            have et47 := hF.new 3 47 (by simp [hd]) rfl
            simp [Bl7V, Act.eval] at et47
            have y3 : ly 3 = true := by simp [hd]
            have hO := hW
            try dsimp only at hO
            simp only [y3, Bool.false_eq_true, if_false, if_true] at hO
            have hb : 0 ≤ sg.x ∧ sg.x < 25 := hO.thing 4 rfl
            have ew := IntWalk.i64_in (ar + sg.x) (by omega)
            exact ⟨hW, .int .i64 (ar + sg.x), by go_simp, rfl⟩
          · refine step_pure fun sg ly act wx hl hd hW hF => ?_
            have et10 := hF.old 10 (by kernel_rfl)
            simp [Act.eval] at et10
            exact ⟨hW, .pointer (some ⟨vb, 1, none⟩), by go_simp, rfl⟩
          · refine step_store rfl fun sg ly act wx hl hd hW hF => ?_
            simp [Region.binds] at hd
            have et49 := hF.new 5 49 (by simp [hd]) rfl
            simp [Bl7V, Act.eval] at et49
            have et48 := hF.new 4 48 (by simp [hd]) rfl
            simp [Bl7V, Act.eval] at et48
            have hO := hW
            try dsimp only at hO
            simp only [hl, Bool.false_eq_true, if_false, if_true] at hO
            have hh := hO.heap 3 rfl
            have clq0 := (cell_of_heap hh 0).trans rfl
            have flq0 := frozen_of_heap hh 0
            have clq1 := (cell_of_heap hh 1).trans rfl
            have flq1 := frozen_of_heap hh 1
            have clq2 := (cell_of_heap hh 2).trans rfl
            have flq2 := frozen_of_heap hh 2
            have clq3 := (cell_of_heap hh 3).trans rfl
            have flq3 := frozen_of_heap hh 3
            have zz := heap_lt hh
            refine ⟨(wx.setCell ⟨vb, 1, none⟩ (.int .i64 (ar + sg.x))), sg, .skip, by go_simp, .inl rfl, ?_, fun _ _ _ h => h⟩
            have hN := hO.set 3 rfl ((Keep.refl _ _).setCell (.inl (by simp)) (.int .i64 (ar + sg.x))) (heap_set (hh) 1 (.int .i64 (ar + sg.x)))
            simpa [upd, hl] using hN
        intro sg af w8 hWW hF
        obtain ⟨ff, hf, rfl⟩ := hF.lit
        obtain ⟨x, y, b1, b2, Aq, cq, qq⟩ := sg
        have O8 : Own w1.heap.size w1 [It.blk pb (.cells (prtV Ac cc Ab cb p) 26), It.nx ib dl, It.own 102 4 Av k cv (vscs vis) q, It.blk vb (.cells (if (fun j => decide (j < List.length (_ : List Oper))) 6 = true then #[.int .i64 ar, .int .i64 (ar + (BlS.mk x y b1 b2 Aq cq qq).x), .int .i64 sy, .int .i64 dr] else #[.int .i64 ar, .int .i64 0, .int .i64 sy, .int .i64 dr]) 102), if (fun j => decide (j < List.length (_ : List Oper))) 3 = true then It.gen [] (fun _ => 0 ≤ (BlS.mk x y b1 b2 Aq cq qq).x ∧ (BlS.mk x y b1 b2 Aq cq qq).x < 25) else noIt] w8 := hWW
        simp only [List.length_cons, List.length_nil, Nat.reduceAdd, Nat.reduceLT, decide_true, if_true] at O8
        have hx : 0 ≤ x ∧ x < 25 := O8.thing 4 rfl
        have hb1 := O8.heap 3 rfl
        have g0 : w8.cell? ⟨vb, 0, none⟩ = some (.int .i64 ar) := (cell_of_heap hb1 0).trans rfl
        have g1 : w8.cell? ⟨vb, 1, none⟩ = some (.int .i64 (ar + x)) := (cell_of_heap hb1 1).trans rfl
        have g2 : w8.cell? ⟨vb, 2, none⟩ = some (.int .i64 sy) := (cell_of_heap hb1 2).trans rfl
        have g3 : w8.cell? ⟨vb, 3, none⟩ = some (.int .i64 dr) := (cell_of_heap hb1 3).trans rfl
        have zg := heap_lt hb1
        have OB : OwnS w8 102 4 Av k cv (vscs vis) q := O8.owns 2 rfl
        have H8 := Lib.hid (And.intro O8 OB)
        clear hWW hF hf O8 hb1 OB
        simp only [List.filterMap, List.foldl, List.setIfInBounds_toArray, List.set_cons_succ, List.set_cons_zero]
        go_wp2_with (at_builtin
                     (
                       refine wpList_append_S (size := 4) rfl (.tmp 50) (.tmp 52) 100 rfl iV0 _ 32 Try.underlying100 iV1 iV2 iV3 (by decide) iV4 rfl (A := Av) (n := k) (c := cv) (xs := vscs vis) (fp := q) (by simp [Act.eval]) ⟨w8.heap.size, 0, none⟩ (by simp [Act.eval]) [.int .i64 ar, .int .i64 (ar + x), .int .i64 sy, .int .i64 dr] (H8.out.2.alloc _) rfl ?_ (by simp [Value.oneCell']) (by omega) (by omega) ?_
                       · intro i v hv
                         rw [show (⟨w8.heap.size, 0, none⟩ : Addr).add i = ⟨w8.heap.size, i, none⟩ from by simp [Addr.add]; omega, World.cell?_alloc_new]
                         simpa using hv
                       intro g c' w10 q1 q2 q3 q4
                       have SA := H8.out.1.below ((Below.refl w8.heap.size w8).alloc (Nat.le_refl _) (.cells #[.int .i64 ar, .int .i64 (ar + x), .int .i64 sy, .int .i64 dr] 102))
                       have SB := SA.upd 2 rfl (i' := .own 102 4 (some ⟨g, 0, none⟩) (k + 1) c' (vscs vis ++ vsc ⟨ar, ar + x, sy, dr⟩) [g]) q4 q1 (fun x hx => by rw [List.mem_singleton.1 hx]; rcases q2 with e | e; exact .inl e; exact .inr (Nat.le_of_eq e))
                       have HSB := Lib.hid SB
                       clear SA SB q1 q2 q3 q4))
        go_roundg (gk - 1)
        case measure => omega
        case rel =>
          refine ⟨k + 1, vis ++ [⟨ar, ar + x, sy, dr⟩], some ⟨g, 0, none⟩, c', [g], by omega, by go_num, by rw [List.length_append, HV.out.1]; rfl, HV.out.2.snoc (by simp only; omega), rfl, ?_⟩
          have e : vscs vis ++ vsc ⟨ar, ar + x, sy, dr⟩ = vscs (vis ++ [⟨ar, ar + x, sy, dr⟩]) := (flat_snoc _ _ _).symm
          have h := HSB.out.take 3
          simp only [e] at h
          exact h
      · obtain rfl : k = nn := by omega
        have HO := Lib.hid (And.intro hvl (And.intro hvo hO))
        clear hvl hvo hO
        go_wp2_with fail
        go_meet
        exact ⟨k, vis, Av, cv, q, HO.out.1, hn4, HO.out.2.1, rfl, HO.out.2.2⟩
  case rest =>
    obtain ⟨n, vis, Av, cv, q, hvl, hn4', hvo, rfl, hO⟩ := hcut
    obtain ⟨wv, rfl, hO⟩ : ∃ wz, wz = _ ∧ Own w1.heap.size w1 [It.blk pb (.cells (prtV Ac cc Ab cb p) 26), It.nx ib dl, .own 102 4 Av n cv (vscs vis) q] wz := ⟨_, rfl, hO⟩
    have hh := hO.heap 0 rfl
    have PBv : PrtB wv.heap.size wv Ac cc Ab cb p := (H1.out.2.1.below hO.bel).mono hO.lo
    have VBv : RdB wv.heap.size wv 4 Av vis.length (vscs vis) := by rw [hvl]; exact RdB.of (hO.owns 2 rfl).rd (Nat.le_refl _)
    have hask : askedE p vis = 0 := asked_of (checkP_md H1.out.1) hvo (by omega)
    have kb := Best_cap wv.heap.size Ac cc Ab cb p Av cv vis wv PBv VBv (Nat.le_refl _)
    obtain ⟨be, hbe⟩ : ∃ f, f = bestE p vis := ⟨_, rfl⟩
    obtain ⟨bn, hbn⟩ : ∃ f, f = bestN p vis := ⟨_, rfl⟩
    obtain ⟨np, hnp⟩ : ∃ f, f = (bestV p vis).length := ⟨_, rfl⟩
    unfold BestPostC at kb
    rw [← hbe, ← hbn, ← hnp, hvl] at kb
    have hcells : ∀ wx, Below wv.heap.size wv wx → wx.cell? ⟨pb, 0, none⟩ = some (.slice Ac p.chs.length cc) ∧ wx.cell? ⟨pb, 1, none⟩ = some (.slice Ab p.bts.length cb) ∧ wx.cell? ⟨pb, 2, none⟩ = some (.int .i64 p.tugs) ∧ pb < wx.heap.size := fun wx b => by
      have h := (b.block _ (heap_lt hh)).trans hh
      exact ⟨(cell_of_heap h 0).trans rfl, (cell_of_heap h 1).trans rfl, (cell_of_heap h 2).trans rfl, heap_lt h⟩
    obtain ⟨ce, hce⟩ : ∃ f, f = crowdE p vis := ⟨_, rfl⟩
    have kc : ∀ wx, Below wv.heap.size wv wx → Calls Try.prog 47 #[.agg (prtV Ac cc Ab cb p), .slice Av n cv] wx fun e w' => e = .returned (.tuple #[.int .i64 (crowdH p vis), .int .i64 (crowdD p vis), .int .i64 ce]) ∧ Below wx.heap.size wx w' := fun wx b => by
      have h := Crowded_any wv.heap.size Ac cc Ab cb p Av cv vis wx (PBv.below b) (VBv.below b) b.size
      unfold CrowdPost at h
      rw [← hce, hvl] at h
      exact h
    have kver : be = 0 → ∀ wx Ap cp, Below wv.heap.size wv wx → Rd wx 2 Ap np (plcs (bestV p vis)) → np ≤ cp ∧ cp ≤ 9223372036854775807 → np = n ∧ Calls Try.prog 48 #[.agg (prtV Ac cc Ab cb p), .slice Av n cv, .slice Ap np cp] wx fun e w' => e = .returned (.tuple #[.int .i64 bn, .int .i64 0]) ∧ Below wx.heap.size wx w' := fun h0 wx Ap cp b r hc => by
      obtain ⟨v1, v2, v3⟩ := bl_ver hask hvo.all (by rw [← hbe]; exact h0)
      have h := Verify_any wx.heap.size Ac cc Ab cb p Av cv vis Ap cp (bestV p vis) wx ((PBv.below b).mono b.size) ((VBv.below b).mono b.size) (by rw [← hnp]; exact RdB.of r (Nat.le_refl _)) (by rw [← hnp]; exact hc) (Nat.le_refl _)
      unfold VerPost at h
      rw [v1, v2, ← hbn, ← hnp, hvl] at h
      exact ⟨by rw [hnp, v3, hvl], h⟩
    have hce2 : (be = 0 ∧ ce = 4) ∨ (be = 4 ∧ ce = 0) ∨ (be = 4 ∧ ce = 4) := by
      rw [hbe, hce]
      have h1 := bl_crowd hask hvo.all
      have h2 : bestE p vis = 0 ∨ bestE p vis = 4 := by
        rcases bl_best hask hvo.all with h | h
        · exact .inl h.1
        · exact .inr h.1
      omega
    have hbF : ∀ wx Ap cp, Below wv.heap.size wv wx → Rd wx 2 Ap np (plcs (bestV p vis)) → BlF ⟨pb, Ac, cc, Ab, cb, p, Av, cv, vis, n, Ap, cp, np⟩ wx := fun wx Ap cp b r =>
      ⟨(b.block _ (heap_lt hh)).trans hh, (PBv.below b).mono b.size, (VBv.below b).mono b.size, by simp only; rw [← hnp]; exact RdB.of r (Nat.le_refl _)⟩
    have hbP : ∀ Ap cp, np ≤ 5 → np ≤ cp ∧ cp ≤ 9223372036854775807 → BlP ⟨pb, Ac, cc, Ab, cb, p, Av, cv, vis, n, Ap, cp, np⟩ := fun Ap cp h5 hc => ⟨H1.out.1, hvo, by simp only; omega, hvl.symm, hnp, hc, h5⟩
    have bwv : Below w.heap.size w wv := H1.out.2.2.trans (hO.bel.mono H1.out.2.2.size)
    obtain ⟨g0, g1, g2, zg⟩ := hcells wv (Below.refl _ _)
    have HQ := Lib.hid (And.intro kb hcells)
    have HQC := Lib.hid kc
    have HQV := Lib.hid kver
    have HZ := Lib.hid (And.intro hbF (And.intro hbP (And.intro bwv (And.intro hbn hbe))))
    clear kb hcells kc kver hbF hbP bwv hbn hbe hnp hce hh PBv VBv hask hvo hvl hO
    rcases hce2 with ⟨rfl, rfl⟩ | ⟨rfl, rfl⟩ | ⟨rfl, rfl⟩
    · go_upto_if 90 with (first | (go_at_call 46; refine HQ.out.1.mono ?_; rintro e w5 ⟨Ap, cp, rfl, o1, o2, o3, o4⟩; have HW5 := Lib.hid (And.intro o1 (And.intro o2 (And.intro o3 o4))); clear o1 o2 o3 o4; obtain ⟨g0, g1, g2, zg⟩ := HQ.out.2 w5 HW5.out.2.2.1) | (go_at_call 47; refine (HQC.out w5 HW5.out.2.2.1).mono ?_; rintro e w6 ⟨rfl, b6⟩; have HW6 := Lib.hid (And.intro (HW5.out.2.2.1.trans (b6.mono HW5.out.2.2.1.size)) b6); clear b6; obtain ⟨h0, h1, h2, zh⟩ := HQ.out.2 w6 HW6.out.1))
      clear g0 g1 g2 zg
      go_cut [6, 17, 18] from 91 to 111 (fun a _ _ wx => a = .bool false ∧ Below w6.heap.size w6 wx)
      case first =>
        obtain ⟨hn0, kv6⟩ := HQV.out (by simp) w6 Ap cp HW6.out.1 (HW5.out.1.below HW6.out.2) HW5.out.2.2.2
        have hne : ((np : Int) != (n : Int)) = false := by simp [hn0]
        have hbb : (bn != bn) = false := by simp
        have HV6 := Lib.hid kv6
        clear hn0 kv6
        go_wp2_with (go_at_call 48; refine HV6.out.mono ?_; rintro e w7 ⟨rfl, b7⟩; have HB7 := Lib.hid b7; clear b7)
        go_meet
        exact ⟨rfl, HB7.out⟩
      case rest =>
        obtain ⟨rfl, hb7⟩ := hcut
        obtain ⟨w7, rfl, b7⟩ : ∃ wz, wz = _ ∧ Below w6.heap.size w6 wz := ⟨_, rfl, hb7⟩
        have b67 := HW6.out.1.trans (b7.mono HW6.out.1.size)
        have r7 := (HW5.out.1.below HW6.out.2).below b7
        have HY := Lib.hid (And.intro b67 (And.intro r7 (HZ.out.2.2.1.trans (b67.mono HZ.out.2.2.1.size))))
        clear b7 b67 r7 h0 h1 h2 zh hb7
        apply_assumption
        obtain ⟨c, hc⟩ : ∃ c : BlC, c = ⟨pb, Ac, cc, Ab, cb, p, Av, cv, vis, n, Ap, cp, np⟩ := ⟨_, rfl⟩
        have P1 : BlP c := by rw [hc]; exact HZ.out.2.1 Ap cp HW5.out.2.1 HW5.out.2.2.2
        have P2 : BlF c w7 := by rw [hc]; exact HZ.out.1 w7 Ap cp HY.out.1 HY.out.2.1
        have P3 : bn = bestN c.p c.vis ∧ 0 = bestE c.p c.vis := by rw [hc]; exact ⟨HZ.out.2.2.2.1, HZ.out.2.2.2.2⟩
        obtain ⟨e1, e2, e3, e4, e5, e6, e7⟩ : pb = c.pb ∧ Av = c.Av ∧ cv = c.cv ∧ n = c.n ∧ Ap = c.Ap ∧ cp = c.cp ∧ np = c.np := by rw [hc]; exact ⟨rfl, rfl, rfl, rfl, rfl, rfl, rfl⟩
        rw [e1, e2, e3, e4, e5, e6, e7]
        refine best_y P1 P2 HY.out.2.2 HR2.out.1 HR2.out.2.1 HR2.out.2.2 P3.1 P3.2 ?_
        intro _ _ _ h
        exact h
    · go_upto_if 90 with (first | (go_at_call 46; refine HQ.out.1.mono ?_; rintro e w5 ⟨Ap, cp, rfl, o1, o2, o3, o4⟩; have HW5 := Lib.hid (And.intro o1 (And.intro o2 (And.intro o3 o4))); clear o1 o2 o3 o4; obtain ⟨g0, g1, g2, zg⟩ := HQ.out.2 w5 HW5.out.2.2.1) | (go_at_call 47; refine (HQC.out w5 HW5.out.2.2.1).mono ?_; rintro e w6 ⟨rfl, b6⟩; have HW6 := Lib.hid (And.intro (HW5.out.2.2.1.trans (b6.mono HW5.out.2.2.1.size)) b6); clear b6; obtain ⟨h0, h1, h2, zh⟩ := HQ.out.2 w6 HW6.out.1))
      clear g0 g1 g2 zg
      go_cut [6, 17, 18] from 91 to 111 (fun a _ _ wx => a = .bool false ∧ Below w6.heap.size w6 wx)
      case first =>
        go_wp2_with fail
        go_meet
        exact ⟨rfl, Below.refl _ _⟩
      case rest =>
        obtain ⟨rfl, hb7⟩ := hcut
        obtain ⟨w7, rfl, b7⟩ : ∃ wz, wz = _ ∧ Below w6.heap.size w6 wz := ⟨_, rfl, hb7⟩
        have b67 := HW6.out.1.trans (b7.mono HW6.out.1.size)
        have r7 := (HW5.out.1.below HW6.out.2).below b7
        have HY := Lib.hid (And.intro b67 (And.intro r7 (HZ.out.2.2.1.trans (b67.mono HZ.out.2.2.1.size))))
        clear b7 b67 r7 h0 h1 h2 zh hb7
        apply_assumption
        obtain ⟨c, hc⟩ : ∃ c : BlC, c = ⟨pb, Ac, cc, Ab, cb, p, Av, cv, vis, n, Ap, cp, np⟩ := ⟨_, rfl⟩
        have P1 : BlP c := by rw [hc]; exact HZ.out.2.1 Ap cp HW5.out.2.1 HW5.out.2.2.2
        have P2 : BlF c w7 := by rw [hc]; exact HZ.out.1 w7 Ap cp HY.out.1 HY.out.2.1
        have P3 : bn = bestN c.p c.vis ∧ 4 = bestE c.p c.vis := by rw [hc]; exact ⟨HZ.out.2.2.2.1, HZ.out.2.2.2.2⟩
        obtain ⟨e1, e2, e3, e4, e5, e6, e7⟩ : pb = c.pb ∧ Av = c.Av ∧ cv = c.cv ∧ n = c.n ∧ Ap = c.Ap ∧ cp = c.cp ∧ np = c.np := by rw [hc]; exact ⟨rfl, rfl, rfl, rfl, rfl, rfl, rfl⟩
        rw [e1, e2, e3, e4, e5, e6, e7]
        refine best_y P1 P2 HY.out.2.2 HR2.out.1 HR2.out.2.1 HR2.out.2.2 P3.1 P3.2 ?_
        intro _ _ _ h
        exact h
    · go_upto_if 90 with (first | (go_at_call 46; refine HQ.out.1.mono ?_; rintro e w5 ⟨Ap, cp, rfl, o1, o2, o3, o4⟩; have HW5 := Lib.hid (And.intro o1 (And.intro o2 (And.intro o3 o4))); clear o1 o2 o3 o4; obtain ⟨g0, g1, g2, zg⟩ := HQ.out.2 w5 HW5.out.2.2.1) | (go_at_call 47; refine (HQC.out w5 HW5.out.2.2.1).mono ?_; rintro e w6 ⟨rfl, b6⟩; have HW6 := Lib.hid (And.intro (HW5.out.2.2.1.trans (b6.mono HW5.out.2.2.1.size)) b6); clear b6; obtain ⟨h0, h1, h2, zh⟩ := HQ.out.2 w6 HW6.out.1))
      clear g0 g1 g2 zg
      go_cut [6, 17, 18] from 91 to 111 (fun a _ _ wx => a = .bool false ∧ Below w6.heap.size w6 wx)
      case first =>
        go_wp2_with fail
        go_meet
        exact ⟨rfl, Below.refl _ _⟩
      case rest =>
        obtain ⟨rfl, hb7⟩ := hcut
        obtain ⟨w7, rfl, b7⟩ : ∃ wz, wz = _ ∧ Below w6.heap.size w6 wz := ⟨_, rfl, hb7⟩
        have b67 := HW6.out.1.trans (b7.mono HW6.out.1.size)
        have r7 := (HW5.out.1.below HW6.out.2).below b7
        have HY := Lib.hid (And.intro b67 (And.intro r7 (HZ.out.2.2.1.trans (b67.mono HZ.out.2.2.1.size))))
        clear b7 b67 r7 h0 h1 h2 zh hb7
        apply_assumption
        obtain ⟨c, hc⟩ : ∃ c : BlC, c = ⟨pb, Ac, cc, Ab, cb, p, Av, cv, vis, n, Ap, cp, np⟩ := ⟨_, rfl⟩
        have P1 : BlP c := by rw [hc]; exact HZ.out.2.1 Ap cp HW5.out.2.1 HW5.out.2.2.2
        have P2 : BlF c w7 := by rw [hc]; exact HZ.out.1 w7 Ap cp HY.out.1 HY.out.2.1
        have P3 : bn = bestN c.p c.vis ∧ 4 = bestE c.p c.vis := by rw [hc]; exact ⟨HZ.out.2.2.2.1, HZ.out.2.2.2.2⟩
        obtain ⟨e1, e2, e3, e4, e5, e6, e7⟩ : pb = c.pb ∧ Av = c.Av ∧ cv = c.cv ∧ n = c.n ∧ Ap = c.Ap ∧ cp = c.cp ∧ np = c.np := by rw [hc]; exact ⟨rfl, rfl, rfl, rfl, rfl, rfl, rfl⟩
        rw [e1, e2, e3, e4, e5, e6, e7]
        refine best_y P1 P2 HY.out.2.2 HR2.out.1 HR2.out.2.1 HR2.out.2.2 P3.1 P3.2 ?_
        intro _ _ _ h
        exact h
end Go.Proofs.Ythmldeningpjbaa
