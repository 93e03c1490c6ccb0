/- polynyaref09.fold (printed by wip/tools/ptreff.py) -/
import Derived.Test.YthmldeningpjbaaPFp29
import Derived.Test.YthmldeningpjbaaPFp26
import Derived.Test.YthmldeningpjbaaPFp22
import Derived.Test.YthmldeningpjbaaPFp3
import Derived.Test.YthmldeningpjbaaPFp14
import Derived.Test.YthmldeningpjbaaPFp23
set_option linter.unusedVariables false
set_option linter.unusedSimpArgs false
namespace Go.Proofs.Ythmldeningpjbaa
open Go Go.RowKit Sp Pt
set_option linter.unusedVariables false
set_option linter.unusedSimpArgs false

/-- what the fold's rounds hold -/
structure RfS (W : World) (ob : Nat) (m : Mp) (w : World) : Prop where
  kp : Keep [ob] W w
  hob : w.heap[ob]? = some (.cells (mpA m) 95 (0, 0))
theorem rmap_far {p : Prt} {l : Pln} (v : Val p l) {c : Int} (c0 : 0 ≤ c) (c1 : c < p.chs.length) {q : List Mp} (hq : ∃ t, q ++ t = mapsS p l c) : farM (foldM q) ∧ -1 ≤ (foldM q).most ∧ (foldM q).floor ≤ NL := by
  have h := pre_jm v c0 c1 hq
  have hf := jm_far h (by omega)
  obtain ⟨⟨a, a'⟩, ⟨b, b'⟩, d, e, f⟩ := h
  simp only [NL] at *
  refine ⟨hf, ?_, ?_⟩ <;> omega

set_option linter.unusedVariables false
def RfaV (W0 : World) (ob lb xb bs off i n cs : Nat) (a z : Mp) (tg cl : Int) : Nat → Value → Prop
  | 0, v => v = .agg #[.int .i64 a.add, .int .i64 a.floor, .int .i64 a.most]
  | 1, v => v = .pointer (some ⟨lb, 2, none⟩)
  | 2, v => v = .slice (some ⟨bs, off, none⟩) n cs
  | 3, v => v = .int .i64 i
  | 4, v => v = .pointer (some ⟨bs, off + i * 3, none⟩)
  | 5, v => v = .pointer (some ⟨bs, off + i * 3 + 2, none⟩)
  | 6, v => v = .int .i64 tg
  | 7, v => v = .int .i64 (-tg)
  | 8, v => v = .pointer (some ⟨xb, 2, none⟩)
  | 9, v => v = .int .i64 cl
  | 10, v => v = .int .i64 (-tg * cl)
  | 11, v => v = .agg #[.int .i64 (-tg * cl), .int .i64 0, .int .i64 1000000000]
  | 12, v => v = .agg #[.int .i64 z.add, .int .i64 z.floor, .int .i64 z.most]
  | _, _ => True
def RfaW (W0 : World) (ob lb xb bs off i n cs : Nat) (a z : Mp) (tg cl : Int) (l : Nat → Bool) (w : World) : Prop := Keep [ob] W0 w ∧ w.heap[ob]? = some (.cells (mpA (if l 13 then z else a)) 95 (0, 0))
set_option linter.unusedVariables false
def RfbV (W0 : World) (ob lb xb bs off i n cs : Nat) (a z : Mp) (gr mo : Int) : Nat → Value → Prop
  | 0, v => v = .agg #[.int .i64 a.add, .int .i64 a.floor, .int .i64 a.most]
  | 1, v => v = .pointer (some ⟨xb, 0, none⟩)
  | 2, v => v = .int .i64 gr
  | 3, v => v = .pointer (some ⟨xb, 0, none⟩)
  | 4, v => v = .int .i64 gr
  | 5, v => v = .pointer (some ⟨lb, 1, none⟩)
  | 6, v => v = .slice (some ⟨bs, off, none⟩) n cs
  | 7, v => v = .int .i64 i
  | 8, v => v = .pointer (some ⟨bs, off + i * 6, none⟩)
  | 9, v => v = .pointer (some ⟨bs, off + i * 6 + 4, none⟩)
  | 10, v => v = .int .i64 mo
  | 11, v => v = .agg #[.int .i64 gr, .int .i64 gr, .int .i64 mo]
  | 12, v => v = .agg #[.int .i64 z.add, .int .i64 z.floor, .int .i64 z.most]
  | _, _ => True
def RfbW (W0 : World) (ob lb xb bs off i n cs : Nat) (a z : Mp) (gr mo : Int) (l : Nat → Bool) (w : World) : Prop := Keep [ob] W0 w ∧ w.heap[ob]? = some (.cells (mpA (if l 13 then z else a)) 95 (0, 0))

set_option maxRecDepth 100000 in
set_option maxHeartbeats 4000000 in
theorem rfold_any (D : Nat) (Ac : Option Addr) (cc : Nat) (Ab : Option Addr) (cb : Nat) (p : Prt) (Al : Option Addr) (cl1 : Nat) (As : Option Addr) (cs1 : Nat) (l : Pln) (c : Nat) (w : World) (PB : PrtB D w Ac cc Ab cb p) (LB : PlnB D w Al cl1 As cs1 l) (hD : D ≤ w.heap.size) (v : Val p l) (hc : c < p.chs.length) :
    Calls Try.prog 91 #[.agg (prtV Ac cc Ab cb p), .agg (plnV Al cl1 As cs1 l), .int .i64 c] w fun e w' => e = .returned (.agg (mpA (foldS p l c))) ∧ Below w.heap.size w w' := by
  obtain ⟨⟨gr, fr, cl⟩, hx⟩ : ∃ x, x = p.chs[c] := ⟨_, rfl⟩
  have hch : ch p (c : Int) = ⟨gr, fr, cl⟩ := by unfold ch; rw [Int.toNat_natCast, List.getD_eq_getElem?_getD, List.getElem?_eq_getElem hc, hx]; rfl
  have hxv := v.chn (c := (c : Int)) (by omega) (by omega)
  rw [hch] at hxv
  simp only at hxv
  obtain ⟨H, hH⟩ := Int.eq_ofNat_of_zero_le (show 0 ≤ l.hours by have := v.h; omega)
  have hHr : 1 ≤ H ∧ H ≤ 100 := by have := v.h; omega
  obtain ⟨W0, hW0⟩ : ∃ W, W = ((w.alloc (.cells (prtV Ac cc Ab cb p) 79)).alloc (.cells (plnV Al cl1 As cs1 l) 85)).alloc (.cells #[.int .i64 0, .int .i64 0, .int .i64 0] 95) := ⟨_, rfl⟩
  obtain ⟨pb, hpb⟩ : ∃ b, b = w.heap.size := ⟨_, rfl⟩
  obtain ⟨lb, hlb⟩ : ∃ b, b = w.heap.size + 1 := ⟨_, rfl⟩
  obtain ⟨rb, hrb⟩ : ∃ b, b = w.heap.size + 1 + 1 := ⟨_, rfl⟩
  have O0 : Own w.heap.size w [.blk pb (.cells (prtV Ac cc Ab cb p) 79), .blk lb (.cells (plnV Al cl1 As cs1 l) 85), .blk rb (.cells #[.int .i64 0, .int .i64 0, .int .i64 0] 95)] W0 := by
    have h := ((((Own.start w).alloc (.cells (prtV Ac cc Ab cb p) 79)).alloc (.cells (plnV Al cl1 As cs1 l) 85)).alloc (.cells #[.int .i64 0, .int .i64 0, .int .i64 0] 95))
    rw [hW0, hpb, hlb, hrb]
    simpa using h
  obtain ⟨bc, oc, hAc, hbc, hcc⟩ := (PB.below (O0.bel.mono hD)).chs.2 (by omega)
  subst hAc
  obtain ⟨s0, s1, s2⟩ := chcs_get hc
  rw [← hx] at s0 s1 s2
  simp only at s0 s1 s2
  have d0 := hcc _ _ s0
  have d1 : W0.cell? ⟨bc, oc + c * 3 + 1, none⟩ = _ := hcc _ _ s1
  have d2 : W0.cell? ⟨bc, oc + c * 3 + 2, none⟩ = _ := hcc _ _ s2
  have zbc := World.block_lt_of_cell? _ _ d0
  have f0 : W0.cell? ⟨pb, 0, none⟩ = some (.slice (some ⟨bc, oc, none⟩) p.chs.length cc) := (cell_of_heap (O0.heap 0 rfl) 0).trans rfl
  have zp := heap_lt (O0.heap 0 rfl)
  have hcI : (c : Int) < (p.chs.length : Int) := by omega
  have H0 := Lib.hid (And.intro O0 (And.intro PB (And.intro LB (And.intro v (And.intro hch (And.intro hH hc))))))
  clear O0 PB LB v hch hcc s0 s1 s2 hx hc hH
  go_enter Try.func91, Try.ntmps91
  go_upto_region 1 with fail
  rw [← hW0, ← hrb, ← hlb, ← hpb]
  clear hW0 hrb hlb hpb
  go_upto_region 3 with fail
  obtain ⟨O0, PB, LB, v, hch, hH, hc⟩ := H0.out
  obtain ⟨W, hW⟩ : ∃ W, W = (W0.alloc (.cells #[.int .i64 gr, .int .i64 fr, .int .i64 cl] 171)).alloc (.cells #[.int .i64 0, .int .i64 0, .int .i64 1000000000] 95) := ⟨_, rfl⟩
  obtain ⟨xb, hxb⟩ : ∃ b, b = W0.heap.size := ⟨_, rfl⟩
  obtain ⟨ob, hob⟩ : ∃ b, b = W0.heap.size + 1 := ⟨_, rfl⟩
  have O1 : Own w.heap.size w [.blk pb (.cells (prtV (some ⟨bc, oc, none⟩) cc Ab cb p) 79), .blk lb (.cells (plnV Al cl1 As cs1 l) 85), .blk rb (.cells #[.int .i64 0, .int .i64 0, .int .i64 0] 95), .blk xb (.cells #[.int .i64 gr, .int .i64 fr, .int .i64 cl] 171), .blk ob (.cells #[.int .i64 0, .int .i64 0, .int .i64 1000000000] 95)] W := by
    have h := (O0.alloc (.cells #[.int .i64 gr, .int .i64 fr, .int .i64 cl] 171)).alloc (.cells #[.int .i64 0, .int .i64 0, .int .i64 1000000000] 95)
    rw [hW, hxb, hob]
    simpa using h
  rw [← hW, ← hob, ← hxb]
  have hnn : (pb ≠ ob ∧ lb ≠ ob ∧ rb ≠ ob ∧ xb ≠ ob) := ⟨O1.ne 0 4 rfl rfl (by decide) (by simp [It.fp]) (by simp [It.fp]), O1.ne 1 4 rfl rfl (by decide) (by simp [It.fp]) (by simp [It.fp]), O1.ne 2 4 rfl rfl (by decide) (by simp [It.fp]) (by simp [It.fp]), O1.ne 3 4 rfl rfl (by decide) (by simp [It.fp]) (by simp [It.fp])⟩
  have hobD : w.heap.size ≤ ob := O1.ge 4 rfl (by simp [It.fp])
  obtain ⟨L, hL⟩ : ∃ L, L = l.calls.length := ⟨_, rfl⟩
  obtain ⟨M, hM⟩ : ∃ M, M = l.swps.length := ⟨_, rfl⟩
  have hLM : L ≤ 60 ∧ M ≤ 200 := by have := v.nx; omega
  have hcap := And.intro PB.c2 (And.intro LB.c1 LB.c2)
  rw [← hL, ← hM] at hcap
  have hnb := v.nb
  have cellsAt : ∀ wx, Keep [ob] W wx → wx.cell? ⟨pb, 1, none⟩ = some (.slice Ab p.bts.length cb) ∧ wx.cell? ⟨lb, 0, none⟩ = some (.int .i64 H) ∧ wx.cell? ⟨lb, 1, none⟩ = some (.slice Al L cl1) ∧ wx.cell? ⟨lb, 2, none⟩ = some (.slice As M cs1) ∧ wx.cell? ⟨xb, 0, none⟩ = some (.int .i64 gr) ∧ wx.cell? ⟨xb, 1, none⟩ = some (.int .i64 fr) ∧ wx.cell? ⟨xb, 2, none⟩ = some (.int .i64 cl) ∧ pb < wx.heap.size ∧ lb < wx.heap.size ∧ xb < wx.heap.size ∧ Below w.heap.size w wx := fun wx hk => by
    have h0 := (hk.block _ (heap_lt (O1.heap 0 rfl)) (by simpa using hnn.1)).trans (O1.heap 0 rfl)
    have h1 := (hk.block _ (heap_lt (O1.heap 1 rfl)) (by simpa using hnn.2.1)).trans (O1.heap 1 rfl)
    have h3 := (hk.block _ (heap_lt (O1.heap 3 rfl)) (by simpa using hnn.2.2.2)).trans (O1.heap 3 rfl)
    refine ⟨(cell_of_heap h0 1).trans rfl, ?_, ?_, ?_, (cell_of_heap h3 0).trans rfl, (cell_of_heap h3 1).trans rfl, (cell_of_heap h3 2).trans rfl, heap_lt h0, heap_lt h1, heap_lt h3, O1.bel.trans (hk.below O1.lo (by simpa using hobD))⟩
    · have e : (H : Int) = l.hours := hH.symm
      rw [e]; exact (cell_of_heap h1 0).trans rfl
    · rw [hL]; exact (cell_of_heap h1 1).trans rfl
    · rw [hM]; exact (cell_of_heap h1 2).trans rfl
  have HC := Lib.hid (And.intro cellsAt (And.intro O1 (And.intro hL hM)))
  have R0 : RfS W ob (foldM (preA p l (c : Int) 0)) W := ⟨Keep.refl _ _, O1.heap 4 rfl⟩
  have HR0 := Lib.hid R0
  clear hW hob hxb O0 O1 PB LB v hch hH hc hL hM cellsAt R0 d0 d1 d2 f0 zp zbc hbc hcI
  obtain ⟨hO1l, hO1x, hO1r⟩ := hnn.2
  go_wp2_with fail
  go_loopg [9] (H) (fun g i wr => ∃ k : Nat, g + k = H ∧ i = .int .i64 k ∧ RfS W ob (foldM (preA p l (c : Int) k)) wr)
  case atStart => exact ⟨0, rfl, rfl, HR0.out⟩
  case round =>
    obtain ⟨k, hk, rfl, hR⟩ := hrel
    obtain ⟨e1, e3, e4, e5, x0, x1, x2, zp, zl, zx, bw⟩ := HC.out.1 wr hR.kp
    by_cases hlt : k < H
    · have hRB : RfS W ob (foldM (preB p l (c : Int) k 0)) wr := by rw [preB_zero]; exact hR
      have HRB := Lib.hid hRB
      clear hR hRB bw
      obtain ⟨G1, rfl⟩ : ∃ G, G = gk := ⟨_, rfl⟩
      go_wp2_with fail
      clear e1 e3 e4 e5 x0 x1 x2 zp zl zx
      go_loopg [10] (M) (fun g i wr => ∃ i' : Nat, g + i' = M ∧ i = .int .i64 i' ∧ RfS W ob (foldM (preB p l (c : Int) k i')) wr)
      case atStart => exact ⟨0, rfl, rfl, HRB.out⟩
      case round =>
        obtain ⟨i, hi, rfl, hR⟩ := hrel
        obtain ⟨e1, e3, e4, e5, x0, x1, x2, zp, zl, zx, bw⟩ := HC.out.1 wr hR.kp
        obtain ⟨-, PB, LB, v, hch, hH, hc⟩ := H0.out
        by_cases hli : i < M
        · have hil : i < l.swps.length := by rw [← HC.out.2.2.2]; exact hli
          obtain ⟨bs, off, hAs, hbD, hcell⟩ := (LB.below (bw.mono hD)).swps.2 (by omega)
          obtain ⟨g0, g1, g2⟩ := swcs_get hil
          obtain ⟨s, hs⟩ : ∃ s, s = l.swps[i] := ⟨_, rfl⟩
          rw [← hs] at g0 g1 g2
          have y0 := hcell _ _ g0
          have y1 : wr.cell? ⟨bs, off + i * 3 + 1, none⟩ = _ := hcell _ _ g1
          have y2 : wr.cell? ⟨bs, off + i * 3 + 2, none⟩ = _ := hcell _ _ g2
          have zb := World.block_lt_of_cell? _ _ y0
          have hsv := v.sw s (by rw [hs]; exact List.getElem_mem hil)
          have n2 : (i : Int) < (M : Int) := by omega
          have hsucc := preB_succ (p := p) (c := (c : Int)) (h := k) hil
          rw [← hs] at hsucc
          have hfar := rmap_far v (c := (c : Int)) (by omega) (by omega) (preB_le (i := i) (h := k) (l := l) (p := p) (c := (c : Int)) (by omega))
          have hbo : bs ≠ ob := by omega
          have HI0 := Lib.hid (And.intro hsucc (And.intro hR hfar))
          subst hAs
          clear hsucc hR hfar hcell g0 g1 g2 PB LB v bw hs hc
          by_cases hh : s.hour = (k : Int)
          · rw [hh] at y0
            have q1 : ((k : Int) == (k : Int)) = true := by simp
            by_cases hcn : s.channel = (c : Int)
            · rw [hcn] at y1
              have q2 : ((c : Int) == (c : Int)) = true := by simp
              obtain ⟨a, ha⟩ : ∃ a, a = foldM (preB p l (c : Int) k i) := ⟨_, rfl⟩
              obtain ⟨z, hz⟩ : ∃ z, z = join1 a ⟨-s.tugs * cl, 0, NL⟩ := ⟨_, rfl⟩
              have hmul : 0 ≤ s.tugs * cl ∧ s.tugs * cl ≤ 4000 := ⟨Int.mul_nonneg (by omega) (by omega), by have h1 := Int.mul_le_mul_of_nonneg_right (a := s.tugs) (b := 20) (c := cl) (by omega) (by omega); have h2 : (20 : Int) * cl ≤ 20 * 200 := (by omega); omega⟩
              have hneg : -s.tugs * cl = -(s.tugs * cl) := by rw [Int.neg_mul]
              have hJ : ∀ wx, Calls Try.prog 103 #[.agg #[.int .i64 a.add, .int .i64 a.floor, .int .i64 a.most], .agg #[.int .i64 (-s.tugs * cl), .int .i64 0, .int .i64 1000000000]] wx fun e w' => e = .returned (.agg #[.int .i64 z.add, .int .i64 z.floor, .int .i64 z.most]) ∧ Below wx.heap.size wx w' := fun wx => by
                obtain ⟨h1, h2, h3⟩ := HI0.out.2.2
                rw [← ha] at h1 h2 h3
                rw [hz]
                exact rjoin_any a ⟨-s.tugs * cl, 0, NL⟩ wx h1 (by refine ⟨?_, ?_, ?_⟩ <;> simp only [far, NL] <;> omega) h2 (by simp only [NL]; omega) h3
              have HJ := Lib.hid hJ
              have HZ := Lib.hid (And.intro ha hz)
              have HR : Hid (RfS W ob a wr) := Lib.hid (by rw [ha]; exact HI0.out.2.1)
              have HY := Lib.hid (And.intro (And.intro hO1l (And.intro hbo hO1r)) (And.intro e5 (And.intro y2 x2)))
              have HI := Lib.hid (And.intro n2 (show -9223372036854775808 ≤ -s.tugs * cl ∧ -s.tugs * cl ≤ 9223372036854775807 by omega))
              have htg : 0 ≤ s.tugs ∧ s.tugs ≤ 20 := by omega
              clear hJ ha hz hmul hneg hsv
              go_upto_region 10 with fail
              refine wp_region_steps (σ := Unit) (by kernel_rfl) (by kernel_rfl) (fun _ jx vx _ => RfaV wr ob lb xb bs off i M cs1 a z s.tugs cl jx vx) (fun _ ly wx => RfaW wr ob lb xb bs off i M cs1 a z s.tugs cl ly wx) () ?_ ?_ ?_
              · exact ⟨(Keep.refl _ _).drew, by rw [if_neg (by simp)]; exact HR.out.hob⟩
              · simp only [AllFrom, Nat.zero_add, Nat.reduceAdd]
                refine ⟨?_, ?_, ?_, ?_, ?_, ?_, ?_, ?_, ?_, ?_, ?_, ?_, ?_, ?_, trivial⟩
                · refine step_pure fun sg ly a' wx hl hd hW hF => ?_
                  have et8 := hF.old 8 (by kernel_rfl)
                  simp [Act.eval] at et8
                  have n13_12 := hF.notYet 0 12 hl (by kernel_rfl)
                  have n13 := hF.notYet 12 13 n13_12 (by kernel_rfl)
                  have hh := hW.2
                  rw [if_neg (by simp [n13])] at hh
                  have c0 := (cell_of_heap hh 0).trans rfl
                  have c1 := (cell_of_heap hh 1).trans rfl
                  have c2 := (cell_of_heap hh 2).trans rfl
                  exact ⟨by simpa [RfaW, upd] using hW, _, by go_simp, rfl⟩
                · refine step_pure fun sg ly a wr hl hd hW hF => ?_
                  have et4 := hF.old 4 (by kernel_rfl)
                  simp [Act.eval] at et4
                  exact ⟨by simpa [RfaW, upd] using hW, .pointer (some ⟨lb, 2, none⟩), by go_simp, rfl⟩
                · refine step_pure fun sg ly a' wx hl hd hW hF => ?_
                  simp [Region.binds] at hd
                  have et50 := hF.new 1 50 (by simp [hd]) rfl
                  simp [RfaV, Act.eval] at et50
                  have c0 := hW.1.cell HY.out.2.1 (by simpa using HY.out.1.1)
                  exact ⟨by simpa [RfaW, upd] using hW, _, by go_simp, rfl⟩
                · refine step_pure fun sg ly a wr hl hd hW hF => ?_
                  have et10 := hF.old 10 (by kernel_rfl)
                  simp [Act.eval] at et10
                  exact ⟨by simpa [RfaW, upd] using hW, .int .i64 i, by go_simp, rfl⟩
                · refine step_pure fun sg ly a' wx hl hd hW hF => ?_
                  simp [Region.binds] at hd
                  have et51 := hF.new 2 51 (by simp [hd]) rfl
                  simp [RfaV, Act.eval] at et51
                  have et52 := hF.new 3 52 (by simp [hd]) rfl
                  simp [RfaV, Act.eval] at et52
                  have q0 := HI.out.1
                  exact ⟨by simpa [RfaW, upd] using hW, .pointer (some ⟨bs, off + i * 3, none⟩), by go_simp, rfl⟩
                · refine step_pure fun sg ly a wr hl hd hW hF => ?_
                  simp [Region.binds] at hd
                  have et53 := hF.new 4 53 (by simp [hd]) rfl
                  simp [RfaV, Act.eval] at et53
                  exact ⟨by simpa [RfaW, upd] using hW, .pointer (some ⟨bs, off + i * 3 + 2, none⟩), by go_simp, rfl⟩
                · refine step_pure fun sg ly a' wx hl hd hW hF => ?_
                  simp [Region.binds] at hd
                  have et54 := hF.new 5 54 (by simp [hd]) rfl
                  simp [RfaV, Act.eval] at et54
                  have c0 := hW.1.cell HY.out.2.2.1 (by simpa using HY.out.1.2.1)
                  exact ⟨by simpa [RfaW, upd] using hW, _, by go_simp, rfl⟩
                · refine step_pure fun sg ly a' wx hl hd hW hF => ?_
                  simp [Region.binds] at hd
                  have et55 := hF.new 6 55 (by simp [hd]) rfl
                  simp [RfaV, Act.eval] at et55
                  have ew := IntWalk.i64_in (-s.tugs) (by omega)
                  exact ⟨by simpa [RfaW, upd] using hW, .int .i64 (-s.tugs), by go_simp, rfl⟩
                · refine step_pure fun sg ly a wr hl hd hW hF => ?_
                  have et7 := hF.old 7 (by kernel_rfl)
                  simp [Act.eval] at et7
                  exact ⟨by simpa [RfaW, upd] using hW, .pointer (some ⟨xb, 2, none⟩), by go_simp, rfl⟩
                · refine step_pure fun sg ly a' wx hl hd hW hF => ?_
                  simp [Region.binds] at hd
                  have et57 := hF.new 8 57 (by simp [hd]) rfl
                  simp [RfaV, Act.eval] at et57
                  have c0 := hW.1.cell HY.out.2.2.2 (by simpa using HY.out.1.2.2)
                  exact ⟨by simpa [RfaW, upd] using hW, _, by go_simp, rfl⟩
                · refine step_pure fun sg ly a' wx hl hd hW hF => ?_
                  simp [Region.binds] at hd
                  have et56 := hF.new 7 56 (by simp [hd]) rfl
                  simp [RfaV, Act.eval] at et56
                  have et58 := hF.new 9 58 (by simp [hd]) rfl
                  simp [RfaV, Act.eval] at et58
                  have ew := IntWalk.i64_in (-s.tugs * cl) HI.out.2
                  exact ⟨by simpa [RfaW, upd] using hW, .int .i64 (-s.tugs * cl), by go_simp, rfl⟩
                · refine step_pure fun sg ly a wr hl hd hW hF => ?_
                  simp [Region.binds] at hd
                  have et59 := hF.new 10 59 (by simp [hd]) rfl
                  simp [RfaV, Act.eval] at et59
                  exact ⟨by simpa [RfaW, upd] using hW, .agg #[.int .i64 (-s.tugs * cl), .int .i64 0, .int .i64 1000000000], by go_simp, rfl⟩
                · refine step_call fun sg ly a' wx hl hd hW hF => ?_
                  simp [Region.binds] at hd
                  have et49 := hF.new 0 49 (by simp [hd]) rfl
                  simp [RfaV, Act.eval] at et49
                  have et60 := hF.new 11 60 (by simp [hd]) rfl
                  simp [RfaV, Act.eval] at et60
                  have n13 := hF.notYet 12 13 hl (by kernel_rfl)
                  refine ⟨103, #[.agg #[.int .i64 a.add, .int .i64 a.floor, .int .i64 a.most], .agg #[.int .i64 (-s.tugs * cl), .int .i64 0, .int .i64 1000000000]], by go_simp, ?_⟩
                  refine (HJ.out wx).mono ?_
                  rintro e w2 ⟨rfl, hb⟩
                  refine ⟨_, (), rfl, ⟨hW.1.trans (Keep.of_below (S := []) hb) (by simp), ?_⟩, rfl, fun _ _ _ h => h⟩
                  have hh := hW.2
                  rw [if_neg (by simp [n13])] at hh
                  rw [if_neg (by simp [upd, n13])]
                  exact (hb.block _ (heap_lt hh)).trans hh
                · refine step_store rfl fun sg ly a' wx hl hd hW hF => ?_
                  simp [Region.binds] at hd
                  have et8 := hF.old 8 (by kernel_rfl)
                  simp [Act.eval] at et8
                  have et61 := hF.new 12 61 (by simp [hd]) rfl
                  simp [RfaV, Act.eval] at et61
                  have hh := hW.2
                  rw [if_neg (by simp [hl])] at hh
                  have c0 := (cell_of_heap hh 0).trans rfl
                  have c1 := (cell_of_heap hh 1).trans rfl
                  have c2 := (cell_of_heap hh 2).trans rfl
                  have f0 := frozen_of_heap hh 0
                  have f1 := frozen_of_heap hh 1
                  have f2 := frozen_of_heap hh 2
                  have zz := heap_lt hh
                  refine ⟨((wx.setCell ⟨ob, 0, none⟩ (.int .i64 z.add)).setCell ⟨ob, 1, none⟩ (.int .i64 z.floor)).setCell ⟨ob, 2, none⟩ (.int .i64 z.most), (), .skip, by go_simp, .inl rfl, ⟨((hW.1.setCell (p := ⟨ob, 0, none⟩) (.inl (by simp)) _).setCell (p := ⟨ob, 1, none⟩) (.inl (by simp)) _).setCell (p := ⟨ob, 2, none⟩) (.inl (by simp)) _, ?_⟩, fun _ _ _ h => h⟩
                  rw [if_pos (by simp [upd])]
                  exact heap_set (heap_set (heap_set hh 0 _) 1 _) 2 _
              intro _ af w5 hWW hF
              obtain ⟨ff, hf, rfl⟩ := hF.lit
              have h5 := hWW.2
              simp only [List.length_cons, List.length_nil, Nat.reduceAdd, Nat.reduceLT, decide_true, if_true] at h5
              have k5 := hWW.1
              have R5 : RfS W ob (foldM (preB p l (c : Int) k (i + 1))) w5 := by
                refine ⟨HR.out.kp.trans k5 (fun x hx => .inl hx), ?_⟩
                have e : preB p l (c : Int) k (i + 1) = preB p l (c : Int) k i ++ [⟨-s.tugs * cl, 0, NL⟩] := by
                  rw [HI0.out.1, if_pos (by simp [isSw, hh, hcn]), mpSw, H0.out.2.2.2.2.1]
                rw [e, foldM_snoc, ← HZ.out.1, ← HZ.out.2]
                exact h5
              have HR5 := Lib.hid R5
              clear hf hF hWW h5 k5 R5
              simp only [List.filterMap, List.foldl, List.setIfInBounds_toArray, List.set_cons_succ, List.set_cons_zero]
              clear e1 e3 e4 e5 x0 x1 x2 zp zl zx y0 y1 y2 zb
              go_wp2_with fail
              go_roundg (gk - 1)
              case measure => omega
              case rel => exact ⟨i + 1, by omega, by go_num, HR5.out⟩
            · have q2 : (s.channel == (c : Int)) = false := by simpa using hcn
              have R5 : Hid (RfS W ob (foldM (preB p l (c : Int) k (i + 1))) wr) := Lib.hid (by
                have e : preB p l (c : Int) k (i + 1) = preB p l (c : Int) k i := by rw [HI0.out.1, if_neg (by simp [isSw, hcn])]
                rw [e]; exact HI0.out.2.1)
              go_wp2_with fail
              go_roundg (gk - 1)
              case measure => omega
              case rel => exact ⟨i + 1, by omega, by go_num, R5.out⟩
          · have q1 : (s.hour == (k : Int)) = false := by simpa using hh
            have R5 : Hid (RfS W ob (foldM (preB p l (c : Int) k (i + 1))) wr) := Lib.hid (by
              have e : preB p l (c : Int) k (i + 1) = preB p l (c : Int) k i := by rw [HI0.out.1, if_neg (by simp [isSw, hh])]
              rw [e]; exact HI0.out.2.1)
            go_wp2_with fail
            go_roundg (gk - 1)
            case measure => omega
            case rel => exact ⟨i + 1, by omega, by go_num, R5.out⟩
        · obtain rfl : i = M := by omega
          have hRC : RfS W ob (foldM (preC p l (c : Int) k 0)) wr := by rw [preC_zero, ← HC.out.2.2.2]; exact hR
          have HRC := Lib.hid hRC
          clear hR hRC bw PB LB v hch hH hc
          go_wp2_with fail
          clear e1 e3 e4 e5 x0 x1 x2 zp zl zx
          go_loopg [11] (L) (fun g i wr => ∃ i' : Nat, g + i' = L ∧ i = .int .i64 i' ∧ RfS W ob (foldM (preC p l (c : Int) k i')) wr)
          case atStart => exact ⟨0, rfl, rfl, HRC.out⟩
          case round =>
            obtain ⟨i, hi, rfl, hR⟩ := hrel
            obtain ⟨e1, e3, e4, e5, x0, x1, x2, zp, zl, zx, bw⟩ := HC.out.1 wr hR.kp
            obtain ⟨-, PB, LB, v, hch, hH, hc⟩ := H0.out
            by_cases hli : i < L
            · have hil : i < l.calls.length := by rw [← HC.out.2.2.1]; exact hli
              obtain ⟨bs, off, hAs, hbD, hcell⟩ := (LB.below (bw.mono hD)).calls.2 (by omega)
              obtain ⟨g0, g1, g2, g3, g4, g5⟩ := cacs_get hil
              obtain ⟨y, hy⟩ : ∃ s, s = l.calls[i] := ⟨_, rfl⟩
              rw [← hy] at g0 g1 g4
              have y0 := hcell _ _ g0
              have y1 : wr.cell? ⟨bs, off + i * 6 + 1, none⟩ = _ := hcell _ _ g1
              have y4 : wr.cell? ⟨bs, off + i * 6 + 4, none⟩ = _ := hcell _ _ g4
              have zb := World.block_lt_of_cell? _ _ y0
              have hyv := v.ca y (by rw [hy]; exact List.getElem_mem hil)
              have n2 : (i : Int) < (L : Int) := by omega
              have hsucc := preC_succ (p := p) (c := (c : Int)) (h := k) hil
              rw [← hy] at hsucc
              have hfar := rmap_far v (c := (c : Int)) (by omega) (by omega) (preC_le (i := i) (h := k) (l := l) (p := p) (c := (c : Int)) (by omega))
              have hbo : bs ≠ ob := by omega
              have HI0 := Lib.hid (And.intro hsucc (And.intro hR hfar))
              subst hAs
              by_cases hh : y.hour = (k : Int)
              · rw [hh] at y0
                have q1 : ((k : Int) == (k : Int)) = true := by simp
                obtain ⟨bn, hbn⟩ : ∃ bn : Nat, y.berth = (bn : Int) := ⟨y.berth.toNat, by omega⟩
                have hbnl : bn < p.bts.length := by omega
                obtain ⟨b2, off2, Ak, ck, hAb, hbD2, u0, u1, u2⟩ := (PB.below (bw.mono hD)).bts bn hbnl
                have hbt : bt p y.berth = p.bts[bn] := by unfold bt; rw [hbn, Int.toNat_natCast, List.getD_eq_getElem?_getD, List.getElem?_eq_getElem hbnl]; rfl
                rw [← hbt] at u1 u2
                obtain ⟨path, hpath⟩ : ∃ path, path = (bt p y.berth).path := ⟨_, rfl⟩
                rw [← hpath] at u1 u2
                rw [hbn] at y1
                have zb2 := World.block_lt_of_cell? _ _ u1
                obtain ⟨z, hz⟩ : ∃ z, z = path.contains (c : Int) := ⟨_, rfl⟩
                obtain ⟨pn, hpn⟩ : ∃ pn, pn = path.length := ⟨_, rfl⟩
                rw [← hpn] at u1
                have hct : ∀ m, Calls Try.prog 106 #[.slice Ak pn ck, .int .i64 c] (wr.drewN m) fun e w' => e = .returned (.bool z) ∧ w' = wr.drewN m := fun m => by
                  rw [hpn, hz]
                  exact (rhas_any Ak ck path c (wr.drewN m) ⟨(u2.1.rd (by have := bw.size; omega)).1, (u2.1.rd (by have := bw.size; omega)).2⟩ (by have := u2.2; omega)).mono fun e w' ⟨h1, h2⟩ => ⟨h1, h2.symm⟩
                have hbI : (0 : Int) ≤ (bn : Int) ∧ (bn : Int) < (p.bts.length : Int) := by omega
                have HCT := Lib.hid (And.intro hct (And.intro hz hpath))
                have hym := And.intro hyv.2.2.1 hyv.2.2.2.1
                subst hAb
                clear hsucc hR hfar hcell g0 g1 g2 g3 g4 g5 PB LB v bw hy hc hbt hbn u0 u2 hct hz hpath hpn hyv hch hH
                go_upto_region 14 with fail
                go_quiet ((go_at_call 106; with_reducible exact Calls.quiet_of_same (HCT.out.1 _)))
                obtain ⟨w2, hw2⟩ : ∃ w2, w2 = wr.drewN nq := ⟨_, rfl⟩
                rw [← hw2]
                have hR2 : RfS W ob (foldM (preC p l (c : Int) k i)) w2 := by rw [hw2]; exact ⟨HI0.out.2.1.kp.drewN _, HI0.out.2.1.hob⟩
                have y42 : w2.cell? ⟨bs, off + i * 6 + 4, none⟩ = some (.int .i64 y.most) := by rw [hw2]; exact y4
                have zb' : bs < w2.heap.size := by rw [hw2]; exact zb
                have HR2 := Lib.hid hR2
                clear hw2 e1 e3 e4 e5 x0 x1 x2 zp zl zx y0 y1 y4 zb zb2 u1
                obtain ⟨e1, e3, e4, e5, x0, x1, x2, zp, zl, zx, bw⟩ := HC.out.1 w2 hR2.kp
                clear hR2 bw
                cases z
                · have R5 : Hid (RfS W ob (foldM (preC p l (c : Int) k (i + 1))) w2) := Lib.hid (by
                    have e : preC p l (c : Int) k (i + 1) = preC p l (c : Int) k i := by rw [HI0.out.1, if_neg (by simp only [isCa, ← HCT.out.2.2, ← HCT.out.2.1]; simp)]
                    rw [e]; exact HR2.out)
                  go_wp2_with fail
                  go_roundg (gk - 1)
                  case measure => omega
                  case rel => exact ⟨i + 1, by omega, by go_num, R5.out⟩
                · obtain ⟨a, ha⟩ : ∃ a, a = foldM (preC p l (c : Int) k i) := ⟨_, rfl⟩
                  obtain ⟨z, hz⟩ : ∃ z, z = join1 a ⟨gr, gr, y.most⟩ := ⟨_, rfl⟩
                  have hJ : ∀ wx, Calls Try.prog 103 #[.agg #[.int .i64 a.add, .int .i64 a.floor, .int .i64 a.most], .agg #[.int .i64 gr, .int .i64 gr, .int .i64 y.most]] wx fun e w' => e = .returned (.agg #[.int .i64 z.add, .int .i64 z.floor, .int .i64 z.most]) ∧ Below wx.heap.size wx w' := fun wx => by
                    obtain ⟨h1, h2, h3⟩ := HI0.out.2.2
                    rw [← ha] at h1 h2 h3
                    rw [hz]
                    exact rjoin_any a ⟨gr, gr, y.most⟩ wx h1 (by refine ⟨?_, ?_, ?_⟩ <;> simp only [far] <;> omega) h2 (by simp only; omega) h3
                  have HJ := Lib.hid hJ
                  have HZ := Lib.hid (And.intro ha hz)
                  have HR : Hid (RfS W ob a w2) := Lib.hid (by rw [ha]; exact HR2.out)
                  have HY := Lib.hid (And.intro (And.intro hO1l (And.intro hbo hO1r)) (And.intro e4 (And.intro y42 x0)))
                  have hx0 := x0
                  clear hJ ha hz
                  go_upto_region 15 with fail
                  refine wp_region_steps (σ := Unit) (by kernel_rfl) (by kernel_rfl) (fun _ jx vx _ => RfbV w2 ob lb xb bs off i L cl1 a z gr y.most jx vx) (fun _ ly wx => RfbW w2 ob lb xb bs off i L cl1 a z gr y.most ly wx) () ?_ ?_ ?_
                  · exact ⟨(Keep.refl _ _).drew, by rw [if_neg (by simp)]; exact HR.out.hob⟩
                  · simp only [AllFrom, Nat.zero_add, Nat.reduceAdd]
                    refine ⟨?_, ?_, ?_, ?_, ?_, ?_, ?_, ?_, ?_, ?_, ?_, ?_, ?_, ?_, trivial⟩
                    · refine step_pure fun sg ly a' wx hl hd hW hF => ?_
                      have et8 := hF.old 8 (by kernel_rfl)
                      simp [Act.eval] at et8
                      have n13_12 := hF.notYet 0 12 hl (by kernel_rfl)
                      have n13 := hF.notYet 12 13 n13_12 (by kernel_rfl)
                      have hh := hW.2
                      rw [if_neg (by simp [n13])] at hh
                      have c0 := (cell_of_heap hh 0).trans rfl
                      have c1 := (cell_of_heap hh 1).trans rfl
                      have c2 := (cell_of_heap hh 2).trans rfl
                      exact ⟨by simpa [RfbW, upd] using hW, _, by go_simp, rfl⟩
                    · refine step_pure fun sg ly a wr hl hd hW hF => ?_
                      have et7 := hF.old 7 (by kernel_rfl)
                      simp [Act.eval] at et7
                      exact ⟨by simpa [RfbW, upd] using hW, .pointer (some ⟨xb, 0, none⟩), by go_simp, rfl⟩
                    · refine step_pure fun sg ly a' wx hl hd hW hF => ?_
                      simp [Region.binds] at hd
                      have et93 := hF.new 1 93 (by simp [hd]) rfl
                      simp [RfbV, Act.eval] at et93
                      have c0 := hW.1.cell HY.out.2.2.2 (by simpa using HY.out.1.2.2)
                      exact ⟨by simpa [RfbW, upd] using hW, _, by go_simp, rfl⟩
                    · refine step_pure fun sg ly a wr hl hd hW hF => ?_
                      have et7 := hF.old 7 (by kernel_rfl)
                      simp [Act.eval] at et7
                      exact ⟨by simpa [RfbW, upd] using hW, .pointer (some ⟨xb, 0, none⟩), by go_simp, rfl⟩
                    · refine step_pure fun sg ly a' wx hl hd hW hF => ?_
                      simp [Region.binds] at hd
                      have et95 := hF.new 3 95 (by simp [hd]) rfl
                      simp [RfbV, Act.eval] at et95
                      have c0 := hW.1.cell HY.out.2.2.2 (by simpa using HY.out.1.2.2)
                      exact ⟨by simpa [RfbW, upd] using hW, _, by go_simp, rfl⟩
                    · refine step_pure fun sg ly a wr hl hd hW hF => ?_
                      have et4 := hF.old 4 (by kernel_rfl)
                      simp [Act.eval] at et4
                      exact ⟨by simpa [RfbW, upd] using hW, .pointer (some ⟨lb, 1, none⟩), by go_simp, rfl⟩
                    · refine step_pure fun sg ly a' wx hl hd hW hF => ?_
                      simp [Region.binds] at hd
                      have et97 := hF.new 5 97 (by simp [hd]) rfl
                      simp [RfbV, Act.eval] at et97
                      have c0 := hW.1.cell HY.out.2.1 (by simpa using HY.out.1.1)
                      exact ⟨by simpa [RfbW, upd] using hW, _, by go_simp, rfl⟩
                    · refine step_pure fun sg ly a wr hl hd hW hF => ?_
                      have et11 := hF.old 11 (by kernel_rfl)
                      simp [Act.eval] at et11
                      exact ⟨by simpa [RfbW, upd] using hW, .int .i64 i, by go_simp, rfl⟩
                    · refine step_pure fun sg ly a wr hl hd hW hF => ?_
                      simp [Region.binds] at hd
                      have et98 := hF.new 6 98 (by simp [hd]) rfl
                      simp [RfbV, Act.eval] at et98
                      have et99 := hF.new 7 99 (by simp [hd]) rfl
                      simp [RfbV, Act.eval] at et99
                      exact ⟨by simpa [RfbW, upd] using hW, .pointer (some ⟨bs, off + i * 6, none⟩), by go_simp, rfl⟩
                    · refine step_pure fun sg ly a wr hl hd hW hF => ?_
                      simp [Region.binds] at hd
                      have et100 := hF.new 8 100 (by simp [hd]) rfl
                      simp [RfbV, Act.eval] at et100
                      exact ⟨by simpa [RfbW, upd] using hW, .pointer (some ⟨bs, off + i * 6 + 4, none⟩), by go_simp, rfl⟩
                    · refine step_pure fun sg ly a' wx hl hd hW hF => ?_
                      simp [Region.binds] at hd
                      have et101 := hF.new 9 101 (by simp [hd]) rfl
                      simp [RfbV, Act.eval] at et101
                      have c0 := hW.1.cell HY.out.2.2.1 (by simpa using HY.out.1.2.1)
                      exact ⟨by simpa [RfbW, upd] using hW, _, by go_simp, rfl⟩
                    · refine step_pure fun sg ly a wr hl hd hW hF => ?_
                      simp [Region.binds] at hd
                      have et94 := hF.new 2 94 (by simp [hd]) rfl
                      simp [RfbV, Act.eval] at et94
                      have et96 := hF.new 4 96 (by simp [hd]) rfl
                      simp [RfbV, Act.eval] at et96
                      have et102 := hF.new 10 102 (by simp [hd]) rfl
                      simp [RfbV, Act.eval] at et102
                      exact ⟨by simpa [RfbW, upd] using hW, .agg #[.int .i64 gr, .int .i64 gr, .int .i64 y.most], by go_simp, rfl⟩
                    · refine step_call fun sg ly a' wx hl hd hW hF => ?_
                      simp [Region.binds] at hd
                      have et92 := hF.new 0 92 (by simp [hd]) rfl
                      simp [RfbV, Act.eval] at et92
                      have et103 := hF.new 11 103 (by simp [hd]) rfl
                      simp [RfbV, Act.eval] at et103
                      have n13 := hF.notYet 12 13 hl (by kernel_rfl)
                      refine ⟨103, #[.agg #[.int .i64 a.add, .int .i64 a.floor, .int .i64 a.most], .agg #[.int .i64 gr, .int .i64 gr, .int .i64 y.most]], by go_simp, ?_⟩
                      refine (HJ.out wx).mono ?_
                      rintro e w2 ⟨rfl, hb⟩
                      refine ⟨_, (), rfl, ⟨hW.1.trans (Keep.of_below (S := []) hb) (by simp), ?_⟩, rfl, fun _ _ _ h => h⟩
                      have hh := hW.2
                      rw [if_neg (by simp [n13])] at hh
                      rw [if_neg (by simp [upd, n13])]
                      exact (hb.block _ (heap_lt hh)).trans hh
                    · refine step_store rfl fun sg ly a' wx hl hd hW hF => ?_
                      simp [Region.binds] at hd
                      have et8 := hF.old 8 (by kernel_rfl)
                      simp [Act.eval] at et8
                      have et104 := hF.new 12 104 (by simp [hd]) rfl
                      simp [RfbV, Act.eval] at et104
                      have hh := hW.2
                      rw [if_neg (by simp [hl])] at hh
                      have c0 := (cell_of_heap hh 0).trans rfl
                      have c1 := (cell_of_heap hh 1).trans rfl
                      have c2 := (cell_of_heap hh 2).trans rfl
                      have f0 := frozen_of_heap hh 0
                      have f1 := frozen_of_heap hh 1
                      have f2 := frozen_of_heap hh 2
                      have zz := heap_lt hh
                      refine ⟨((wx.setCell ⟨ob, 0, none⟩ (.int .i64 z.add)).setCell ⟨ob, 1, none⟩ (.int .i64 z.floor)).setCell ⟨ob, 2, none⟩ (.int .i64 z.most), (), .skip, by go_simp, .inl rfl, ⟨((hW.1.setCell (p := ⟨ob, 0, none⟩) (.inl (by simp)) _).setCell (p := ⟨ob, 1, none⟩) (.inl (by simp)) _).setCell (p := ⟨ob, 2, none⟩) (.inl (by simp)) _, ?_⟩, fun _ _ _ h => h⟩
                      rw [if_pos (by simp [upd])]
                      exact heap_set (heap_set (heap_set hh 0 _) 1 _) 2 _
                  intro _ af w5 hWW hF
                  obtain ⟨ff, hf, rfl⟩ := hF.lit
                  have h5 := hWW.2
                  simp only [List.length_cons, List.length_nil, Nat.reduceAdd, Nat.reduceLT, decide_true, if_true] at h5
                  have k5 := hWW.1
                  have R5 : RfS W ob (foldM (preC p l (c : Int) k (i + 1))) w5 := by
                    refine ⟨HR.out.kp.trans k5 (fun x hx => .inl hx), ?_⟩
                    have e : preC p l (c : Int) k (i + 1) = preC p l (c : Int) k i ++ [⟨gr, gr, y.most⟩] := by
                      rw [HI0.out.1, if_pos (by simp only [isCa, ← HCT.out.2.2, ← HCT.out.2.1]; simp [hh]), mpCa, H0.out.2.2.2.2.1]
                    rw [e, foldM_snoc, ← HZ.out.1, ← HZ.out.2]
                    exact h5
                  have HR5 := Lib.hid R5
                  clear hf hF hWW h5 k5 R5
                  simp only [List.filterMap, List.foldl, List.setIfInBounds_toArray, List.set_cons_succ, List.set_cons_zero]
                  clear e1 e3 e4 e5 x0 x1 x2 zp zl zx y42 zb' hx0
                  go_wp2_with fail
                  go_roundg (gk - 1)
                  case measure => omega
                  case rel => exact ⟨i + 1, by omega, by go_num, HR5.out⟩
              · have q1 : (y.hour == (k : Int)) = false := by simpa using hh
                have R5 : RfS W ob (foldM (preC p l (c : Int) k (i + 1))) wr := by
                  have e : preC p l (c : Int) k (i + 1) = preC p l (c : Int) k i := by rw [hsucc, if_neg (by simp [isCa, hh])]
                  rw [e]; exact hR
                have HR5 := Lib.hid R5
                clear hsucc hR hfar hcell g0 g1 g2 g3 g4 g5 PB LB v bw hy hc hyv hch hH R5 y1 y4
                go_upto_region 14 with fail
                go_quiet (fail)
                go_wp2_with fail
                go_roundg (gk - 1)
                case measure => omega
                case rel => exact ⟨i + 1, by omega, by go_num, ⟨HR5.out.kp.drewN _, HR5.out.hob⟩⟩
            · obtain rfl : i = L := by omega
              have hpre := preA_succ (p := p) (l := l) (c := (c : Int)) (h := k)
              rw [← HC.out.2.2.1, mpFr, hch] at hpre
              have hfar := rmap_far v (c := (c : Int)) (by omega) (by omega) (preC_le (i := i) (h := k) (l := l) (p := p) (c := (c : Int)) (by omega))
              obtain ⟨a, ha⟩ : ∃ a, a = foldM (preC p l (c : Int) k i) := ⟨_, rfl⟩
              obtain ⟨z, hz⟩ : ∃ z, z = join1 a ⟨fr, fr, NL⟩ := ⟨_, rfl⟩
              rw [← ha] at hR hfar
              have hJ : ∀ wx, Calls Try.prog 103 #[.agg #[.int .i64 a.add, .int .i64 a.floor, .int .i64 a.most], .agg #[.int .i64 fr, .int .i64 fr, .int .i64 1000000000]] wx fun e w' => e = .returned (.agg #[.int .i64 z.add, .int .i64 z.floor, .int .i64 z.most]) ∧ Below wx.heap.size wx w' := fun wx => by
                rw [hz]
                exact rjoin_any a ⟨fr, fr, NL⟩ wx hfar.1 (by refine ⟨?_, ?_, ?_⟩ <;> simp only [far, NL] <;> omega) hfar.2.1 (by simp only [NL]; omega) hfar.2.2
              have hA : foldM (preA p l (c : Int) (k + 1)) = z := by rw [hpre, foldM_snoc, ← ha, hz]
              have m0 := (cell_of_heap hR.hob 0).trans rfl
              have m1 := (cell_of_heap hR.hob 1).trans rfl
              have m2 := (cell_of_heap hR.hob 2).trans rfl
              have zo := heap_lt hR.hob
              have HJ := Lib.hid (And.intro hJ (And.intro hA hR))
              clear hJ hA hR hpre hfar ha hz bw PB LB v hch hH hc
              go_wp2_with (go_at_call 103; refine (HJ.out.1 _).mono ?_; rintro e w5 ⟨rfl, hb⟩; have h5 := (hb.block _ (heap_lt HJ.out.2.2.hob)).trans HJ.out.2.2.hob; have t0 := (cell_of_heap h5 0).trans rfl; have t1 := (cell_of_heap h5 1).trans rfl; have t2 := (cell_of_heap h5 2).trans rfl; have u0 := frozen_of_heap h5 0; have u1 := frozen_of_heap h5 1; have u2 := frozen_of_heap h5 2; have zo5 := heap_lt h5; have H5 := Lib.hid (And.intro hb h5); clear hb h5)
              go_roundg (G1 - 1)
              case measure => omega
              case rel =>
                obtain ⟨hb, h5⟩ := H5.out
                refine ⟨k + 1, by omega, by go_num, ⟨(((HJ.out.2.2.kp.trans (Keep.of_below (S := []) hb) (by simp)).setCell (p := ⟨ob, 0, none⟩) (.inl (by simp)) _).setCell (p := ⟨ob, 1, none⟩) (.inl (by simp)) _).setCell (p := ⟨ob, 2, none⟩) (.inl (by simp)) _, ?_⟩⟩
                rw [HJ.out.2.1]
                exact heap_set (heap_set (heap_set h5 0 _) 1 _) 2 _
    · obtain rfl : k = H := by omega
      have hr := (hR.kp.block _ (heap_lt (HC.out.2.1.heap 2 rfl)) (by simpa using hO1x)).trans (HC.out.2.1.heap 2 rfl)
      have m0 := (cell_of_heap hR.hob 0).trans rfl
      have m1 := (cell_of_heap hR.hob 1).trans rfl
      have m2 := (cell_of_heap hR.hob 2).trans rfl
      have zo := heap_lt hR.hob
      have u0 := frozen_of_heap hr 0
      have u1 := frozen_of_heap hr 1
      have u2 := frozen_of_heap hr 2
      have t0 := (cell_of_heap hr 0).trans rfl
      have t1 := (cell_of_heap hr 1).trans rfl
      have t2 := (cell_of_heap hr 2).trans rfl
      have zr := heap_lt hr
      have hfin : foldM (preA p l (c : Int) k) = foldS p l (c : Int) := by
        have hh : l.hours.toNat = k := by have := H0.out.2.2.2.2.2.1; omega
        rw [← hh, preA_all]; rfl
      have HE := Lib.hid (And.intro hr (And.intro hfin (And.intro bw hR)))
      clear hr hfin bw hR
      obtain ⟨z, hz⟩ : ∃ z, z = foldM (preA p l (c : Int) k) := ⟨_, rfl⟩
      have HZ := Lib.hid hz
      rw [← hz] at m0 m1 m2
      clear hz
      go_wp2_with fail
      refine bodyPost_ret (mpR_results (r := 6) (m := z) rfl (heap_set (heap_set (heap_set HE.out.1 0 _) 1 _) 2 _) _ rfl) rfl ⟨by rw [← HE.out.2.1, ← HZ.out], ?_⟩
      have hrb : w.heap.size ≤ rb := HC.out.2.1.ge 2 rfl (by simp [It.fp])
      exact ((HE.out.2.2.1.setCell hrb _).setCell hrb _).setCell hrb _
end Go.Proofs.Ythmldeningpjbaa

