/- polynyalaw08.RestrictVessels -/
import Derived.Test.YtbgnkljjgfcngaaGreatRSp24
import Derived.Deep.RegionHeld3
import Derived.Deep.DeepCutAuto
import Derived.Deep.CutRange
import Derived.Test.YtbgnkljjgfcngaaGreatRSp10
import Derived.Test.YtbgnkljjgfcngaaGreatRSp17
import Derived.Test.YtbgnkljjgfcngaaGreatRSp15
import Derived.Test.YtbgnkljjgfcngaaGreatRSp9
import Derived.Test.YtbgnkljjgfcngaaGreatRSp7
set_option linter.unusedVariables false
set_option linter.unusedSimpArgs false
namespace Go.Proofs.YtbgnkljjgfcngaaGreat
open Go Go.RowKit Sp
set_option linter.unusedSimpArgs false
set_option linter.unusedVariables false

def VeV (As : Option Addr) (cs : Nat) (p : Pol) (v : Ves) (s : RgS × Nat) : Nat → Value → Prop
  | 0, u => u = .agg #[.slice As p.steps.length cs, .int .i64 p.hold, .int .i64 p.calm, .int .i64 p.notice, .int .i64 p.grace]
  | 1, u => u = .agg #[.slice As p.steps.length cs, .int .i64 p.hold, .int .i64 p.calm, .int .i64 p.notice, .int .i64 p.grace]
  | 2, u => u = .agg #[.slice s.1.Ap p.steps.length s.1.cp, .int .i64 p.hold, .int .i64 p.calm, .int .i64 p.notice, .int .i64 p.grace]
  | 3, u => u = .agg #[.int .i64 v.cls, .int .i64 v.ton, .bool v.esc]
  | 4, u => u = .pointer (some ⟨s.1.b13, 0, none⟩)
  | 5, u => u = .pointer (some ⟨s.1.b14, 0, none⟩)
  | 6, u => u = .pointer (some ⟨s.2, 0, none⟩)
  | _, _ => True

set_option maxRecDepth 100000 in
set_option maxHeartbeats 4000000 in
theorem vessels_main (As : Option Addr) (cs : Nat) (p : Pol) (A : Option Addr) (c : Nat) (days : List Int) (Al : Option Addr) (cl : Nat) (l : List Psg) (v : Ves) (day tt : Int) (w : World)
    (hp : PolV w As cs p) (hcs : As = none → p.steps.length = 0 ∧ cs = 0) (hr : Rd w 1 A days.length (ints days)) (hrl : Rd w 5 Al l.length (pscs l)) (hcl : Al = none → l.length = 0 ∧ cl = 0)
    (hlong : longB p.steps.length days.length = false) (hll : l.length ≤ 60 ∨ (500 < l.length ∧ l.length ≤ 520)) :
    Calls Tryz.prog 7 #[.agg #[.slice As p.steps.length cs, .int .i64 p.hold, .int .i64 p.calm, .int .i64 p.notice, .int .i64 p.grace], .slice A days.length c, .agg #[.int .i64 v.cls, .int .i64 v.ton, .bool v.esc], .int .i64 day, .int .i64 tt, .slice Al l.length cl] w fun e w' => e = .returned (.bool true) ∧ Below w.heap.size w w' := by
  have hl1 : p.steps.length ≤ 20 ∧ days.length ≤ 420 := by simp [longB] at hlong; omega
  obtain ⟨hl1, hl2⟩ := hl1
  obtain ⟨W1, hW1⟩ : ∃ W, W = w.alloc (.cells #[.slice As p.steps.length cs, .int .i64 p.hold, .int .i64 p.calm, .int .i64 p.notice, .int .i64 p.grace] 25) := ⟨_, rfl⟩
  obtain ⟨ob, hob⟩ : ∃ ob, ob = w.heap.size := ⟨_, rfl⟩
  obtain ⟨W, hW⟩ : ∃ W, W = W1.alloc (.cells #[.int .i64 v.cls, .int .i64 v.ton, .bool v.esc] 29) := ⟨_, rfl⟩
  obtain ⟨vb, hvb⟩ : ∃ vb, vb = w.heap.size + 1 := ⟨_, rfl⟩
  have hoh : W.heap[ob]? = some (.cells #[.slice As p.steps.length cs, .int .i64 p.hold, .int .i64 p.calm, .int .i64 p.notice, .int .i64 p.grace] 25 (0, 0)) := by rw [hW, hW1, hob]; exact heap_alloc' (heap_alloc_new _ _) _
  have hvh : W.heap[vb]? = some (.cells #[.int .i64 v.cls, .int .i64 v.ton, .bool v.esc] 29 (0, 0)) := by rw [hW, hvb, show w.heap.size + 1 = W1.heap.size from by rw [hW1]; simp]; exact heap_alloc_new _ _
  have bW : Below w.heap.size w W := by rw [hW, hW1]; exact ((Below.refl _ _).alloc (Nat.le_refl _) _).alloc (by simp) _
  have hpW : PolV W As cs p := ⟨hp.1, hp.2.1, hp.2.2.below bW⟩
  have hrW := hr.below bW
  have hrlW := hrl.below bW
  have o0 := (cell_of_heap hoh 0).trans rfl
  have o1 := (cell_of_heap hoh 1).trans rfl
  have o2 := (cell_of_heap hoh 2).trans rfl
  have o3 := (cell_of_heap hoh 3).trans rfl
  have o4 := (cell_of_heap hoh 4).trans rfl
  have zo := heap_lt hoh
  have k1 := long_any (.int .i64 p.hold) (.int .i64 p.calm) (.int .i64 p.notice) (.int .i64 p.grace) As p.steps.length cs days.length W
  rw [hlong] at k1
  have HP := Lib.hid (And.intro bW (And.intro hoh (And.intro hvh (And.intro hpW (And.intro hrW (And.intro hrlW (And.intro k1 (And.intro hcs hcl))))))))
  clear hp hr hrl bW hoh hvh hpW hrW hrlW k1 hlong hcs hcl
  go_enter Tryz.func7, Tryz.ntmps7
  go_upto_region 1 with fail
  rw [← hvb, ← hob, ← hW1, ← hW]
  clear hW hob hW1 hvb
  go_cut [51] from 33 to 51 (fun b wx => b = .bool false ∧ Below W.heap.size W wx)
  case first =>
    rcases hll with hll | hll
    · have m1 : ¬ (60 : Int) < (l.length : Int) := by omega
      have m2 : ¬ (520 : Int) < (l.length : Int) := by omega
      go_wp2_with fail
      refine HP.out.2.2.2.2.2.2.1.mono ?_
      rintro e w1 ⟨rfl, b1⟩
      go_wp2_with fail
      go_meet
      exact ⟨by simp; omega, b1⟩
    · have m1 : (60 : Int) < (l.length : Int) := by omega
      have m2 : ¬ (520 : Int) < (l.length : Int) := by omega
      have m3 : ¬ (l.length : Int) ≤ 500 := by omega
      go_wp2_with fail
      refine HP.out.2.2.2.2.2.2.1.mono ?_
      rintro e w1 ⟨rfl, b1⟩
      go_wp2_with fail
      go_meet
      exact ⟨by simp; omega, b1⟩
  case rest =>
  obtain ⟨rfl, b1⟩ := hcut
  obtain ⟨w1, rfl⟩ : ∃ W, W = wc := ⟨_, rfl⟩
  have hoh := (b1.block _ (heap_lt HP.out.2.1)).trans HP.out.2.1
  have hvh := (b1.block _ (heap_lt HP.out.2.2.1)).trans HP.out.2.2.1
  have H1 := Lib.hid (And.intro (HP.out.1.trans (b1.mono HP.out.1.size)) (And.intro hoh (And.intro hvh (And.intro (show PolV w1 As cs p from ⟨HP.out.2.2.2.1.1, HP.out.2.2.2.1.2.1, HP.out.2.2.2.1.2.2.below b1⟩) (And.intro (HP.out.2.2.2.2.1.below b1) (HP.out.2.2.2.2.2.1.below b1))))))
  have hl520 : l.length ≤ 520 := by omega
  clear o0 o1 o2 o3 o4 zo b1 hoh hvh hll
  go_upto_region 3 with fail
  have o0 := (cell_of_heap H1.out.2.1 0).trans rfl
  have o1 := (cell_of_heap H1.out.2.1 1).trans rfl
  have o2 := (cell_of_heap H1.out.2.1 2).trans rfl
  have o3 := (cell_of_heap H1.out.2.1 3).trans rfl
  have o4 := (cell_of_heap H1.out.2.1 4).trans rfl
  have zo := heap_lt H1.out.2.1
  have zv := heap_lt H1.out.2.2.1
  go_cut [13, 14, 15] (fun x y z wx => ∃ b13 b14 b15 Ap cp, x = .pointer (some ⟨b13, 0, none⟩) ∧ y = .pointer (some ⟨b14, 0, none⟩) ∧ z = .pointer (some ⟨b15, 0, none⟩) ∧ QR w1 wx b13 b14 As cs p Ap cp ∧ wx.heap[b15]? = some (.cells #[.int .i64 v.cls, .int .i64 v.ton, .bool v.esc] 94 (0, 0)) ∧ b13 ≠ b15)
  case first =>
    refine wp_region_steps (σ := RgS × Nat) (by kernel_rfl) (by kernel_rfl) (fun sg jx vx _ => VeV As cs p v sg jx vx) (fun sg ly wx => QV 2 4 5 6 7 8 9 w1 As cs p v sg.1 sg.2 ly wx) ⟨⟨0, 0, 0, none⟩, 0⟩ ?_ ?_ ?_
    · exact ⟨⟨(Below.refl _ _).drew, (fun h => by cases h), (fun h => by cases h), (fun h => by cases h), (fun h => by cases h)⟩, (fun h => by cases h), (fun h => by cases h), (fun h => by cases h), (fun h => by cases h)⟩
    · simp only [AllFrom, Nat.zero_add, Nat.reduceAdd]
      refine ⟨?_, ?_, ?_, ?_, ?_, ?_, ?_, ?_, ?_, ?_, trivial⟩
      · refine step_pure fun sg ly a wr hl hd hW hF => ?_
        have et6 := hF.old 6 (by kernel_rfl)
        simp [Act.eval] at et6
        have hh := (hW.q.bel.block _ zo).trans H1.out.2.1
        have o0 := (cell_of_heap hh 0).trans rfl
        have o1 := (cell_of_heap hh 1).trans rfl
        have o2 := (cell_of_heap hh 2).trans rfl
        have o3 := (cell_of_heap hh 3).trans rfl
        have o4 := (cell_of_heap hh 4).trans rfl
        exact ⟨hW.other _ (by decide) (by decide), _, by go_simp, rfl⟩
      · refine step_pure fun sg ly a wr hl hd hW hF => ?_
        have et6 := hF.old 6 (by kernel_rfl)
        simp [Act.eval] at et6
        have hh := (hW.q.bel.block _ zo).trans H1.out.2.1
        have o0 := (cell_of_heap hh 0).trans rfl
        have o1 := (cell_of_heap hh 1).trans rfl
        have o2 := (cell_of_heap hh 2).trans rfl
        have o3 := (cell_of_heap hh 3).trans rfl
        have o4 := (cell_of_heap hh 4).trans rfl
        exact ⟨hW.other _ (by decide) (by decide), _, by go_simp, rfl⟩
      · refine step_call fun sg ly a wr hl hd hW hF => ?_
        simp [Region.binds] at hd
        have et54 := hF.new 1 54 (by simp [hd]) rfl
        simp [VeV, Act.eval] at et54
        have n6 := hF.notYet 2 8 hl (by kernel_rfl)
        refine ⟨15, #[.agg #[.slice As p.steps.length cs, .int .i64 p.hold, .int .i64 p.calm, .int .i64 p.notice, .int .i64 p.grace]], by go_simp, ?_⟩
        refine (policy_any As cs p wr ⟨H1.out.2.2.2.1.1, H1.out.2.2.2.1.2.1, H1.out.2.2.2.1.2.2.below hW.q.bel⟩ (by omega)).mono ?_
        rintro e w2 ⟨Ap, cp, qp, rfl, ow, nw, bw⟩
        refine ⟨_, ({ sg.1 with Ap := Ap, cp := cp }, sg.2), rfl, hW.call (by decide) (by decide) n6 bw ow nw, rfl, ?_⟩
        intro i u hi h
        have i2 : i ≠ 2 := by rintro rfl; rw [hl] at hi; cases hi
        unfold VeV at h ⊢
        split at h <;> first | exact h | exact absurd rfl i2
      · refine step_pure fun sg ly a wr hl hd hW hF => ?_
        have et8 := hF.old 8 (by kernel_rfl)
        simp [Act.eval] at et8
        have hh := (hW.q.bel.block _ zv).trans H1.out.2.2.1
        have o0 := (cell_of_heap hh 0).trans rfl
        have o1 := (cell_of_heap hh 1).trans rfl
        have o2 := (cell_of_heap hh 2).trans rfl
        exact ⟨hW.other _ (by decide) (by decide), _, by go_simp, rfl⟩
      · refine step_run fun sg ly a wr hl hd hW hF => ?_
        have n5 := hF.notYet 4 7 hl (by kernel_rfl)
        refine ⟨_, wr.alloc (.cells qrZpol 25), ({ sg.1 with b13 := wr.heap.size }, sg.2), by go_simp, hW.allocA (by decide) (by decide) n5, rfl, ?_⟩
        intro i u hi h
        have i2 : i ≠ 4 := by rintro rfl; rw [hl] at hi; cases hi
        unfold VeV at h ⊢
        split at h <;> first | exact h | exact absurd rfl i2
      · refine step_run fun sg ly a wr hl hd hW hF => ?_
        have n5 := hF.notYet 5 8 hl (by kernel_rfl)
        refine ⟨_, wr.alloc (.cells qrZpol 65), ({ sg.1 with b14 := wr.heap.size }, sg.2), by go_simp, hW.allocB (by decide) (by decide) n5, rfl, ?_⟩
        intro i u hi h
        have i2 : i ≠ 5 := by rintro rfl; rw [hl] at hi; cases hi
        unfold VeV at h ⊢
        split at h <;> first | exact h | exact absurd rfl i2
      · refine step_run fun sg ly a wr hl hd hW hF => ?_
        have n5 := hF.notYet 6 9 hl (by kernel_rfl)
        refine ⟨_, wr.alloc (.cells qvZ 94), (sg.1, wr.heap.size), by go_simp, hW.allocC (by decide) (by decide) n5, rfl, ?_⟩
        intro i u hi h
        have i2 : i ≠ 6 := by rintro rfl; rw [hl] at hi; cases hi
        unfold VeV at h ⊢
        split at h <;> first | exact h | exact absurd rfl i2
      · refine step_store rfl fun sg ly a wr hl hd hW hF => ?_
        simp [Region.binds] at hd
        have et53 := hF.new 0 53 (by simp [hd]) rfl
        simp [VeV, Act.eval] at et53
        have et13 := hF.new 4 13 (by simp [hd]) rfl
        simp [VeV, Act.eval] at et13
        have y3 : ly 4 = true := by simp [hd]
        have hq := (hW.q.q3 y3).2
        rw [hl] at hq
        obtain ⟨⟨c0, c1, c2, c3, c4⟩, f0, f1, f2, f3, f4⟩ := qrZero hq
        have hn := hW.storeA (by decide) (by decide) y3 hl
        exact ⟨_, sg, .skip, by go_simp, .inl rfl, hn, fun _ _ _ h => h⟩
      · refine step_store rfl fun sg ly a wr hl hd hW hF => ?_
        simp [Region.binds] at hd
        have et55 := hF.new 2 55 (by simp [hd]) rfl
        simp [VeV, Act.eval] at et55
        have et14 := hF.new 5 14 (by simp [hd]) rfl
        simp [VeV, Act.eval] at et14
        have y4 : ly 5 = true := by simp [hd]
        have hq := (hW.q.q4 y4).2
        rw [hl] at hq
        obtain ⟨⟨c0, c1, c2, c3, c4⟩, f0, f1, f2, f3, f4⟩ := qrZero hq
        have hn := hW.storeB (by decide) (by decide) y4 hl
        exact ⟨_, sg, .skip, by go_simp, .inl rfl, hn, fun _ _ _ h => h⟩
      · refine step_store rfl fun sg ly a wr hl hd hW hF => ?_
        simp [Region.binds] at hd
        have et56 := hF.new 3 56 (by simp [hd]) rfl
        simp [VeV, Act.eval] at et56
        have et15 := hF.new 6 15 (by simp [hd]) rfl
        simp [VeV, Act.eval] at et15
        have y5 : ly 6 = true := by simp [hd]
        have hq := (hW.q5 y5).2
        rw [hl] at hq
        obtain ⟨⟨c0, c1, c2⟩, f0, f1, f2⟩ := qvZero hq
        have hn := hW.storeC (by decide) (by decide) y5 hl
        exact ⟨_, sg, .skip, by go_simp, .inl rfl, hn, fun _ _ _ h => h⟩
    intro sg a w5 hW hF
    have e13 := hF.new 4 13 (by decide) rfl
    have e14 := hF.new 5 14 (by decide) rfl
    have e15 := hF.new 6 15 (by decide) rfl
    obtain ⟨f, hf, rfl⟩ := hF.lit
    rw [← hf] at e13 e14 e15
    simp only [VeV] at e13 e14 e15
    have HQ := Lib.hid (hW.fin rfl rfl rfl rfl rfl rfl rfl)
    clear hf hF hW
    simp only [List.filterMap, List.foldl, List.setIfInBounds_toArray, List.set_cons_succ, List.set_cons_zero, e13, e14, e15]
    clear e13 e14 e15
    go_wp2_with fail
    go_meet
    exact ⟨_, _, _, _, _, rfl, rfl, rfl, HQ.out⟩
  case rest =>
    obtain ⟨b13, b14, b15, Ap, cp, rfl, rfl, rfl, hq, hub, nub⟩ := hcut
    clear o0 o1 o2 o3 o4 zo zv
    have hob := (hq.bel.block _ (heap_lt H1.out.2.1)).trans H1.out.2.1
    have hvb := (hq.bel.block _ (heap_lt H1.out.2.2.1)).trans H1.out.2.2.1
    have o0 := (cell_of_heap hob 0).trans rfl
    have zo := heap_lt hob
    have pvc : PolV wc As cs p := ⟨H1.out.2.2.2.1.1, H1.out.2.2.2.1.2.1, H1.out.2.2.2.1.2.2.below hq.bel⟩
    have HQ := Lib.hid (And.intro hq (And.intro hvb (And.intro pvc (And.intro (H1.out.2.2.2.2.1.below hq.bel) (H1.out.2.2.2.2.2.below hq.bel)))))
    have HU := Lib.hid (And.intro hub nub)
    clear hob hvb pvc hq hub nub
    go_wp2_with fail
    refine (cloneStp_any As p.steps.length cs (stcs p.steps) wc HQ.out.2.2.1.2.2 (stcs_one _) HP.out.2.2.2.2.2.2.2.1 (by omega)).mono ?_
    rintro e w2 ⟨Ac, cc, qc, rfl, oc, nc, bc⟩
    have h13 := (bc.block _ (heap_lt HQ.out.1.h13)).trans HQ.out.1.h13
    have h14 := (bc.block _ (heap_lt HQ.out.1.h14)).trans HQ.out.1.h14
    have hv2 := (bc.block _ (heap_lt HQ.out.2.1)).trans HQ.out.2.1
    have n13 := HQ.out.1.n13
    have vbn : vb ≠ b13 := by have := heap_lt H1.out.2.2.1; omega
    have hw3 : (w2.setCell ⟨b13, 0, none⟩ (.slice Ac p.steps.length cc)).heap[b13]? = some (.cells #[.slice Ac p.steps.length cc, .int .i64 p.hold, .int .i64 p.calm, .int .i64 p.notice, .int .i64 p.grace] 25 (0, 0)) := heap_set h13 0 _
    have K3 : Keep [b13] w2 (w2.setCell ⟨b13, 0, none⟩ (.slice Ac p.steps.length cc)) := (Keep.refl _ _).setCell (.inl (by simp)) _
    have h14' := (K3.block _ (heap_lt h14) (by simpa using n13.2.2.symm)).trans h14
    have hu2 := (bc.block _ (heap_lt HU.out.1)).trans HU.out.1
    have hu2' := (K3.block _ (heap_lt hu2) (by simpa using HU.out.2.symm)).trans hu2
    have hv2' := (K3.block _ (heap_lt hv2) (by simpa using vbn)).trans hv2
    have c13 := (cell_of_heap h13 0).trans rfl
    have f13 := frozen_of_heap h13 0
    have z13 := heap_lt h13
    have old : ∀ {size n : Nat} {B : Option Addr} {xs : List Value}, Rd w1 size B n xs → Rd w2 size B n xs → Rd (w2.setCell ⟨b13, 0, none⟩ (.slice Ac p.steps.length cc)) size B n xs := fun r1 r2 => by
      refine ⟨r2.1, fun hn => ?_⟩
      obtain ⟨b, off, e, hb, hc⟩ := r2.2 hn
      obtain ⟨b', off', e', hb', _⟩ := r1.2 hn
      rw [e] at e'; injection e' with e'; injection e' with e1
      exact ⟨b, off, e, by have := K3.size; omega, fun j u hu => K3.cell (hc j u hu) (by simp; omega)⟩
    have ra3 := old H1.out.2.2.2.2.1 (HQ.out.2.2.2.1.below bc)
    have rl3 := old H1.out.2.2.2.2.2 (HQ.out.2.2.2.2.below bc)
    have pc3 : PolV (w2.setCell ⟨b13, 0, none⟩ (.slice Ac p.steps.length cc)) Ac cc p := ⟨oc.ge, oc.cap, (oc.setCell (fun hm => by have := nc _ hm; have := heap_lt HQ.out.1.h13; simp only at *; omega) _).rd⟩
    have pp3 : PolV (w2.setCell ⟨b13, 0, none⟩ (.slice Ac p.steps.length cc)) Ap cp p := ⟨HQ.out.1.ge.1, HQ.out.1.ge.2, by
      have r2 := HQ.out.1.rd.below bc
      by_cases hn : p.steps.length = 0
      · exact ⟨r2.1, fun h => by omega⟩
      · exact K3.rd r2 (fun g o e => by simpa using HQ.out.1.off g o e hn)⟩
    have bel3 : Below w.heap.size w (w2.setCell ⟨b13, 0, none⟩ (.slice Ac p.steps.length cc)) := (H1.out.1.trans ((HQ.out.1.bel.trans (bc.mono HQ.out.1.bel.size)).mono H1.out.1.size)).setCell (by have := H1.out.1.size; simp; omega) _
    have H3 := Lib.hid (And.intro hw3 (And.intro h14' (And.intro hv2' (And.intro pc3 (And.intro pp3 (And.intro ra3 (And.intro rl3 (And.intro bel3 hu2'))))))))
    clear hu2 hu2' hw3 h14' hv2' pc3 pp3 ra3 rl3 bel3 old oc nc bc h14 hv2 n13 vbn h13 o0 zo K3
    go_upto_region 5 with fail
    generalize w2.setCell ⟨b13, 0, none⟩ (.slice Ac p.steps.length cc) = w3 at H3 ⊢
    clear c13 f13 z13
    go_wp2_with fail
    refine (copyInts_any A c days w3 H3.out.2.2.2.2.2.1 (by omega)).mono ?_
    rintro e w4 ⟨Ao, co, rfl, ro, hco1, hco2, b4⟩
    have H4 := Lib.hid (And.intro ro (And.intro hco1 (And.intro hco2 b4)))
    clear ro hco1 hco2 b4
    go_wp2_with fail
    refine (clonePsg_any Al l.length cl (pscs l) w4 (H3.out.2.2.2.2.2.2.1.below H4.out.2.2.2) (pscs_one _) HP.out.2.2.2.2.2.2.2.2 (by omega)).mono ?_
    rintro e w5 ⟨Aq, cq, qq, rfl, oq, nq, b5⟩
    have b35 : Below w3.heap.size w3 w5 := H4.out.2.2.2.trans (b5.mono H4.out.2.2.2.size)
    have sq : VQ w w5 b13 b14 b15 vb p v days l Ac cc Ap cp A Ao Aq Al := by
      obtain ⟨g1, g2, g3, g4, g5, g6, g7, g8, g9⟩ := H3.out
      exact ⟨(b35.block _ (heap_lt g1)).trans g1, (b35.block _ (heap_lt g2)).trans g2, (b35.block _ (heap_lt g9)).trans g9, (b35.block _ (heap_lt g3)).trans g3, ⟨g4.1, g4.2.1, g4.2.2.below b35⟩, ⟨g5.1, g5.2.1, g5.2.2.below b35⟩, H4.out.1.below b5, g6.below b35, oq.rd, g7.below b35, g8.trans (b35.mono g8.size)⟩
    have hsc := vc_all w b13 b14 b15 vb p v days l day tt Ac cc Ap cp Ao co A c Aq cq Al cl (by omega) (by omega) hl520
    generalize mayB p days v day = mB, mayE p days v day = mE, windowsS p days v = LW, askS p days v = wE, firN p days v day = fN, firE p days v day = fE, (needV p days day tt).cls = nc, (needV p days day tt).ton = nt, (needV p days day tt).esc = ne, needE p days day tt = nE, reviewS p days l = LR, reviewE p days l = rE at hsc
    have S5 := Lib.hid sq
    have C := Lib.hid hsc
    clear oq nq b5 b35 sq hsc
    obtain ⟨⟨a0, a1, a2, a3, a4, za⟩, ⟨b0, b1, b2, b3, b4, zb⟩, ⟨u0, u1, u2, zu⟩, v0, v1, v2, zv⟩ := S5.out.cells
    go_wp2_with fail
    refine (C.out.may _ S5.out).mono ?_
    rintro e w6 ⟨rfl, bn⟩
    have S6 := Lib.hid (S5.out.below bn)
    clear a0 a1 a2 a3 a4 za b0 b1 b2 b3 b4 zb u0 u1 u2 zu v0 v1 v2 zv bn
    obtain ⟨⟨a0, a1, a2, a3, a4, za⟩, ⟨b0, b1, b2, b3, b4, zb⟩, ⟨u0, u1, u2, zu⟩, v0, v1, v2, zv⟩ := S6.out.cells
    go_wp2_with fail
    refine (C.out.rmay _ S6.out).mono ?_
    rintro e w7 ⟨rfl, bn⟩
    have S7 := Lib.hid (S6.out.below bn)
    clear a0 a1 a2 a3 a4 za b0 b1 b2 b3 b4 zb u0 u1 u2 zu v0 v1 v2 zv bn
    obtain ⟨⟨a0, a1, a2, a3, a4, za⟩, ⟨b0, b1, b2, b3, b4, zb⟩, ⟨u0, u1, u2, zu⟩, v0, v1, v2, zv⟩ := S7.out.cells
    go_wp2_with fail
    refine (C.out.win _ S7.out).mono ?_
    rintro e w8 ⟨D1, d1, rfl, r1, bn⟩
    have S8 := Lib.hid (S7.out.below bn)
    have R1 := Lib.hid r1
    clear r1
    clear a0 a1 a2 a3 a4 za b0 b1 b2 b3 b4 zb u0 u1 u2 zu v0 v1 v2 zv bn
    obtain ⟨⟨a0, a1, a2, a3, a4, za⟩, ⟨b0, b1, b2, b3, b4, zb⟩, ⟨u0, u1, u2, zu⟩, v0, v1, v2, zv⟩ := S8.out.cells
    go_wp2_with fail
    refine (C.out.rwin _ S8.out).mono ?_
    rintro e w9 ⟨D2, d2, rfl, r2, bn⟩
    have S9 := Lib.hid (S8.out.below bn)
    have R12 := Lib.hid (And.intro (R1.out.below bn) r2)
    clear r2 R1
    clear a0 a1 a2 a3 a4 za b0 b1 b2 b3 b4 zb u0 u1 u2 zu v0 v1 v2 zv bn
    obtain ⟨⟨a0, a1, a2, a3, a4, za⟩, ⟨b0, b1, b2, b3, b4, zb⟩, ⟨u0, u1, u2, zu⟩, v0, v1, v2, zv⟩ := S9.out.cells
    go_wp2_with fail
    refine (eqSpn_same D1 d1 LW D2 d2 w9 R12.out.1 R12.out.2 C.out.nW).mono ?_
    rintro e w10 ⟨rfl, bn⟩
    have S10 := Lib.hid (S9.out.below bn)
    clear a0 a1 a2 a3 a4 za b0 b1 b2 b3 b4 zb u0 u1 u2 zu v0 v1 v2 zv bn R12
    obtain ⟨⟨a0, a1, a2, a3, a4, za⟩, ⟨b0, b1, b2, b3, b4, zb⟩, ⟨u0, u1, u2, zu⟩, v0, v1, v2, zv⟩ := S10.out.cells
    go_wp2_with fail
    refine (C.out.fir _ S10.out).mono ?_
    rintro e w11 ⟨rfl, bn⟩
    have S11 := Lib.hid (S10.out.below bn)
    clear a0 a1 a2 a3 a4 za b0 b1 b2 b3 b4 zb u0 u1 u2 zu v0 v1 v2 zv bn
    obtain ⟨⟨a0, a1, a2, a3, a4, za⟩, ⟨b0, b1, b2, b3, b4, zb⟩, ⟨u0, u1, u2, zu⟩, v0, v1, v2, zv⟩ := S11.out.cells
    go_wp2_with fail
    refine (C.out.rfir _ S11.out).mono ?_
    rintro e w12 ⟨rfl, bn⟩
    have S12 := Lib.hid (S11.out.below bn)
    clear a0 a1 a2 a3 a4 za b0 b1 b2 b3 b4 zb u0 u1 u2 zu v0 v1 v2 zv bn
    obtain ⟨⟨a0, a1, a2, a3, a4, za⟩, ⟨b0, b1, b2, b3, b4, zb⟩, ⟨u0, u1, u2, zu⟩, v0, v1, v2, zv⟩ := S12.out.cells
    go_wp2_with fail
    refine (C.out.nee _ S12.out).mono ?_
    rintro e w13 ⟨rfl, bn⟩
    have S13 := Lib.hid (S12.out.below bn)
    clear a0 a1 a2 a3 a4 za b0 b1 b2 b3 b4 zb u0 u1 u2 zu v0 v1 v2 zv bn
    obtain ⟨⟨a0, a1, a2, a3, a4, za⟩, ⟨b0, b1, b2, b3, b4, zb⟩, ⟨u0, u1, u2, zu⟩, v0, v1, v2, zv⟩ := S13.out.cells
    clear a0 a1 a2 a3 a4 za b0 b1 b2 b3 b4 zb u0 u1 u2 zu v0 v1 v2 zv
    go_upto_region 19 with fail
    have S14 := Lib.hid (S13.out.below ((Below.refl w13.heap.size w13).alloc (Nat.le_refl _) (.cells #[.int .i64 nc, .int .i64 nt, .bool ne] 29)))
    have hs1 : (w13.alloc (.cells #[.int .i64 nc, .int .i64 nt, .bool ne] 29)).heap[w13.heap.size]? = some (.cells #[.int .i64 nc, .int .i64 nt, .bool ne] 29 (0, 0)) := heap_alloc_new _ _
    generalize w13.alloc (.cells #[.int .i64 nc, .int .i64 nt, .bool ne] 29) = w14 at S14 hs1 ⊢
    generalize w13.heap.size = sb1 at hs1 ⊢
    have G1 := Lib.hid hs1
    clear hs1 S13
    obtain ⟨⟨a0, a1, a2, a3, a4, za⟩, ⟨b0, b1, b2, b3, b4, zb⟩, ⟨u0, u1, u2, zu⟩, v0, v1, v2, zv⟩ := S14.out.cells
    go_wp2_with fail
    refine (C.out.rnee _ S14.out).mono ?_
    rintro e w15 ⟨rfl, bn⟩
    have S15 := Lib.hid (S14.out.below bn)
    have G1 := Lib.hid ((bn.block _ (heap_lt G1.out)).trans G1.out)
    clear a0 a1 a2 a3 a4 za b0 b1 b2 b3 b4 zb u0 u1 u2 zu v0 v1 v2 zv bn
    obtain ⟨⟨a0, a1, a2, a3, a4, za⟩, ⟨b0, b1, b2, b3, b4, zb⟩, ⟨u0, u1, u2, zu⟩, v0, v1, v2, zv⟩ := S15.out.cells
    clear a0 a1 a2 a3 a4 za b0 b1 b2 b3 b4 zb u0 u1 u2 zu v0 v1 v2 zv
    go_upto_region 20 with fail
    have S16 := Lib.hid (S15.out.below ((Below.refl w15.heap.size w15).alloc (Nat.le_refl _) (.cells #[.int .i64 nc, .int .i64 nt, .bool ne] 94)))
    have G2 := Lib.hid (And.intro (heap_alloc' G1.out (.cells #[.int .i64 nc, .int .i64 nt, .bool ne] 94)) (show (w15.alloc (.cells #[.int .i64 nc, .int .i64 nt, .bool ne] 94)).heap[w15.heap.size]? = some (.cells #[.int .i64 nc, .int .i64 nt, .bool ne] 94 (0, 0)) from heap_alloc_new _ _))
    generalize w15.alloc (.cells #[.int .i64 nc, .int .i64 nt, .bool ne] 94) = w16 at S16 G2 ⊢
    generalize w15.heap.size = sb2 at G2 ⊢
    clear S15 G1
    have g0 := (cell_of_heap G2.out.1 0).trans rfl
    have g1 := (cell_of_heap G2.out.1 1).trans rfl
    have g2 := (cell_of_heap G2.out.1 2).trans rfl
    have zg := heap_lt G2.out.1
    have k0 := (cell_of_heap G2.out.2 0).trans rfl
    have k1 := (cell_of_heap G2.out.2 1).trans rfl
    have k2 := (cell_of_heap G2.out.2 2).trans rfl
    have zk := heap_lt G2.out.2
    have hnx := sameVes nc nt ne
    go_upto_region 22 with fail
    clear g0 g1 g2 zg k0 k1 k2 zk hnx G2
    go_wp2_with fail
    obtain ⟨i0, hi', hz0, hz1, hz2⟩ := info_parts infoRPsg
    go_loopw [28, 162] (fun o i wr => ∃ (k : Nat) (Ax : Option Addr) (cx : Nat) (q : List Nat), k ≤ l.length ∧ i = .int .i64 k ∧ o = .slice Ax k cx ∧ OwnS wr 109 5 Ax k cx (pscs (l.take k)) q ∧ (∀ g ∈ q, w16.heap.size ≤ g) ∧ Keep [] w16 wr) (fun _ i _ => l.length - (intOf i).toNat)
    case atStart => exact ⟨0, none, 0, [], Nat.zero_le _, rfl, rfl, by simpa [pscs] using OwnS.nil _ _ _, by simp, Keep.refl _ _⟩
    case round =>
      obtain ⟨k, Ax, cx, q, hk, rfl, rfl, hown, hnew, hK⟩ := hrel
      have HO := Lib.hid (And.intro hown (And.intro hnew hK))
      clear hown hnew hK
      by_cases hlt : k < l.length
      · obtain ⟨b, off, rfl, zb, hc⟩ := (S16.out.rl.below (HO.out.2.2.below (Nat.le_refl _) (by simp))).2 (by omega)
        obtain ⟨x, hx⟩ : ∃ x, x = l[k] := ⟨_, rfl⟩
        obtain ⟨s0, s1, s2, s3, s4⟩ := pscs_get hlt
        rw [← hx] at s0 s1 s2 s3 s4
        have c0 := hc _ _ s0
        have c1 : wr.cell? ⟨b, off + k*5 + 1, none⟩ = _ := hc _ _ s1
        have c2 : wr.cell? ⟨b, off + k*5 + 2, none⟩ = _ := hc _ _ s2
        have c3 : wr.cell? ⟨b, off + k*5 + 3, none⟩ = _ := hc _ _ s3
        have c4 : wr.cell? ⟨b, off + k*5 + 4, none⟩ = _ := hc _ _ s4
        have HX := Lib.hid hx
        have n2 : (k : Int) < (l.length : Int) := by omega
        clear hc s0 s1 s2 s3 s4 hx zb
        go_wp2_with (at_builtin
                     refine wpList_append_S (size := 5) rfl (.tmp 166) (.tmp 174) 107 rfl i0 _ 40 Tryz.underlying107 hi' hz0 hz1 (by decide) hz2 rfl (A := Ax) (n := k) (c := cx) (xs := pscs (l.take k)) (fp := q) (by simp [Act.eval]) ⟨wr.heap.size + 1, 0, none⟩ (by simp [Act.eval]) (psc x) ((HO.out.1.alloc _).alloc _) rfl ?_ (by simp [Value.oneCell', psc]) (by omega) (by omega) ?_
                     · have := psc_cells (wr.alloc (.cells #[.int .i64 x.ves.cls, .int .i64 x.ves.ton, .bool x.ves.esc, .int .i64 x.ent, .int .i64 x.lea] 31)) x 109
                       rwa [World.size_alloc] at this
                     intro g c' wz h1 h2 h3 h4
                     have HG := Lib.hid (And.intro h1 (And.intro h2 h4))
                     clear h1 h2 h3 h4)
        go_roundw
        case measure => simp [intOf]; omega
        case rel =>
          obtain ⟨h1, h2, h4⟩ := HG.out
          refine ⟨k + 1, some ⟨g, 0, none⟩, c', [g], by omega, by go_num, rfl, ?_, fun y hy => ?_, ((HO.out.2.2.alloc _).alloc _).trans h4 (fun z hz => .inr (HO.out.2.1 z hz))⟩
          · rw [List.take_succ_eq_append_getElem hlt, pscs_snoc, ← HX.out]; exact h1
          · rw [List.mem_singleton.1 hy]
            rcases h2 with h2 | h2
            · exact HO.out.2.1 _ h2
            · have := HO.out.2.2.size; simp at h2; omega
      · obtain rfl : k = l.length := by omega
        clear hi' hz0 hz1 hz2
        have S17 := Lib.hid (S16.out.below (HO.out.2.2.below (Nat.le_refl _) (by simp)))
        have RX := Lib.hid (show Rd wr 5 Ax l.length (pscs l) from by have := HO.out.1.rd; rwa [List.take_of_length_le (Nat.le_refl _)] at this)
        clear hlt hk HO
        obtain ⟨w17, rfl⟩ : ∃ W, W = wr := ⟨_, rfl⟩
        obtain ⟨⟨a0, a1, a2, a3, a4, za⟩, ⟨b0, b1, b2, b3, b4, zb⟩, ⟨u0, u1, u2, zu⟩, v0, v1, v2, zv⟩ := S17.out.cells
        go_wp2_with fail
        refine (C.out.rev _ S17.out).mono ?_
        rintro e w18 ⟨D1, d1, rfl, r1, bn⟩
        have S18 := Lib.hid (S17.out.below bn)
        have RX := Lib.hid (And.intro (RX.out.below bn) r1)
        clear r1
        clear a0 a1 a2 a3 a4 za b0 b1 b2 b3 b4 zb u0 u1 u2 zu v0 v1 v2 zv bn
        obtain ⟨⟨a0, a1, a2, a3, a4, za⟩, ⟨b0, b1, b2, b3, b4, zb⟩, ⟨u0, u1, u2, zu⟩, v0, v1, v2, zv⟩ := S18.out.cells
        go_wp2_with fail
        refine (C.out.rrev _ Ax cx S18.out RX.out.1).mono ?_
        rintro e w19 ⟨D2, d2, rfl, r2, bn⟩
        have S19 := Lib.hid (S18.out.below bn)
        have R12 := Lib.hid (And.intro (RX.out.2.below bn) r2)
        clear a0 a1 a2 a3 a4 za b0 b1 b2 b3 b4 zb u0 u1 u2 zu v0 v1 v2 zv bn RX r2
        obtain ⟨⟨a0, a1, a2, a3, a4, za⟩, ⟨b0, b1, b2, b3, b4, zb⟩, ⟨u0, u1, u2, zu⟩, v0, v1, v2, zv⟩ := S19.out.cells
        go_wp2_with fail
        refine (sameInts_any D1 d1 LR D2 d2 w19 R12.out.1 R12.out.2 C.out.nR).mono ?_
        rintro e w20 ⟨rfl, bn⟩
        have S20 := Lib.hid (S19.out.below bn)
        clear a0 a1 a2 a3 a4 za b0 b1 b2 b3 b4 zb u0 u1 u2 zu v0 v1 v2 zv bn R12
        obtain ⟨⟨a0, a1, a2, a3, a4, za⟩, ⟨b0, b1, b2, b3, b4, zb⟩, ⟨u0, u1, u2, zu⟩, v0, v1, v2, zv⟩ := S20.out.cells
        go_wp2_with fail
        refine (C.out.sam _ S20.out).mono ?_
        rintro e w21 ⟨rfl, bn⟩
        have S21 := Lib.hid (S20.out.below bn)
        clear a0 a1 a2 a3 a4 za b0 b1 b2 b3 b4 zb u0 u1 u2 zu v0 v1 v2 zv bn
        obtain ⟨⟨a0, a1, a2, a3, a4, za⟩, ⟨b0, b1, b2, b3, b4, zb⟩, ⟨u0, u1, u2, zu⟩, v0, v1, v2, zv⟩ := S21.out.cells
        go_wp2_with fail
        refine (C.out.smi _ S21.out).mono ?_
        rintro e w22 ⟨rfl, bn⟩
        have S22 := Lib.hid (S21.out.below bn)
        clear a0 a1 a2 a3 a4 za b0 b1 b2 b3 b4 zb u0 u1 u2 zu v0 v1 v2 zv bn
        obtain ⟨⟨a0, a1, a2, a3, a4, za⟩, ⟨b0, b1, b2, b3, b4, zb⟩, ⟨u0, u1, u2, zu⟩, v0, v1, v2, zv⟩ := S22.out.cells
        go_wp2_with fail
        refine (C.out.smo _ S22.out).mono ?_
        rintro e w23 ⟨rfl, bn⟩
        have S23 := Lib.hid (S22.out.below bn)
        clear a0 a1 a2 a3 a4 za b0 b1 b2 b3 b4 zb u0 u1 u2 zu v0 v1 v2 zv bn
        obtain ⟨⟨a0, a1, a2, a3, a4, za⟩, ⟨b0, b1, b2, b3, b4, zb⟩, ⟨u0, u1, u2, zu⟩, v0, v1, v2, zv⟩ := S23.out.cells
        clear a0 a1 a2 a3 a4 za b0 b1 b2 b3 b4 zb u0 u1 u2 zu v0 v1 v2 zv
        go_wp2_with fail
        refine (awake_any _).mono ?_
        rintro e wl ⟨rfl, bn⟩
        have BL := Lib.hid (S23.out.bel.trans (bn.mono S23.out.bel.size))
        clear bn
        go_wp2_with fail
        go_ret
        exact ⟨by simp, BL.out⟩
end Go.Proofs.YtbgnkljjgfcngaaGreat
/- RestrictVessels: all inputs -/
namespace Go.Proofs.YtbgnkljjgfcngaaGreat
open Go Go.RowKit Sp
set_option linter.unusedSimpArgs false
set_option linter.unusedVariables false

set_option maxRecDepth 100000 in
set_option maxHeartbeats 4000000 in
theorem vessels_long (As : Option Addr) (cs : Nat) (p : Pol) (A : Option Addr) (c : Nat) (days : List Int) (Al : Option Addr) (cl n : Nat) (v : Ves) (day tt : Int) (w : World) (h : longB p.steps.length days.length = true ∨ (60 < n ∧ n ≤ 500) ∨ 520 < n) :
    Calls Tryz.prog 7 #[.agg #[.slice As p.steps.length cs, .int .i64 p.hold, .int .i64 p.calm, .int .i64 p.notice, .int .i64 p.grace], .slice A days.length c, .agg #[.int .i64 v.cls, .int .i64 v.ton, .bool v.esc], .int .i64 day, .int .i64 tt, .slice Al n cl] w fun e w' => e = .returned (.bool true) ∧ Below w.heap.size w w' := by
  obtain ⟨W1, hW1⟩ : ∃ W, W = w.alloc (.cells #[.slice As p.steps.length cs, .int .i64 p.hold, .int .i64 p.calm, .int .i64 p.notice, .int .i64 p.grace] 25) := ⟨_, rfl⟩
  obtain ⟨W, hW⟩ : ∃ W, W = W1.alloc (.cells #[.int .i64 v.cls, .int .i64 v.ton, .bool v.esc] 29) := ⟨_, rfl⟩
  have bW : Below w.heap.size w W := by rw [hW, hW1]; exact ((Below.refl _ _).alloc (Nat.le_refl _) _).alloc (by simp) _
  obtain ⟨ob, hob⟩ : ∃ ob, ob = w.heap.size := ⟨_, rfl⟩
  have hoh : W.heap[ob]? = some (.cells #[.slice As p.steps.length cs, .int .i64 p.hold, .int .i64 p.calm, .int .i64 p.notice, .int .i64 p.grace] 25 (0, 0)) := by rw [hW, hW1, hob]; exact heap_alloc' (heap_alloc_new _ _) _
  obtain ⟨lb, hlb⟩ : ∃ b, b = longB p.steps.length days.length := ⟨_, rfl⟩
  have k1 := long_any (.int .i64 p.hold) (.int .i64 p.calm) (.int .i64 p.notice) (.int .i64 p.grace) As p.steps.length cs days.length W
  rw [← hlb] at k1 h
  have o0 := (cell_of_heap hoh 0).trans rfl
  have o1 := (cell_of_heap hoh 1).trans rfl
  have o2 := (cell_of_heap hoh 2).trans rfl
  have o3 := (cell_of_heap hoh 3).trans rfl
  have o4 := (cell_of_heap hoh 4).trans rfl
  have zo := heap_lt hoh
  have HP := Lib.hid (And.intro bW k1)
  clear bW hoh k1 hlb
  cases lb
  · have h1 : (60 < n ∧ n ≤ 500) ∨ 520 < n := by rcases h with h | h; cases h; exact h
    clear h
    rcases h1 with h1 | h1
    · have h2 : (60 : Int) < (n : Int) := by omega
      have h3 : (n : Int) ≤ 500 := by omega
      go_enter Tryz.func7, Tryz.ntmps7
      go_upto_region 1 with fail
      rw [← hob, ← hW1, ← hW]
      clear hW hob hW1
      go_wp2_with fail
      refine HP.out.2.mono ?_
      rintro e w1 ⟨rfl, b1⟩
      have H1 := Lib.hid (HP.out.1.trans (b1.mono HP.out.1.size))
      clear b1 o0 o1 o2 o3 o4 zo
      go_wp2_with fail
      refine (awake_any _).mono ?_
      rintro e wl ⟨rfl, bn⟩
      have BL := Lib.hid (H1.out.trans (bn.mono H1.out.size))
      clear bn
      go_wp2_with fail
      go_ret
      exact ⟨rfl, BL.out⟩
    · have h2 : (60 : Int) < (n : Int) := by omega
      have h3 : ¬ (n : Int) ≤ 500 := by omega
      have h4 : (520 : Int) < (n : Int) := by omega
      go_enter Tryz.func7, Tryz.ntmps7
      go_upto_region 1 with fail
      rw [← hob, ← hW1, ← hW]
      clear hW hob hW1
      go_wp2_with fail
      refine HP.out.2.mono ?_
      rintro e w1 ⟨rfl, b1⟩
      have H1 := Lib.hid (HP.out.1.trans (b1.mono HP.out.1.size))
      clear b1 o0 o1 o2 o3 o4 zo
      go_wp2_with fail
      refine (awake_any _).mono ?_
      rintro e wl ⟨rfl, bn⟩
      have BL := Lib.hid (H1.out.trans (bn.mono H1.out.size))
      clear bn
      go_wp2_with fail
      go_ret
      exact ⟨rfl, BL.out⟩
  · clear h
    go_enter Tryz.func7, Tryz.ntmps7
    go_upto_region 1 with fail
    rw [← hob, ← hW1, ← hW]
    clear hW hob hW1
    go_wp2_with fail
    refine HP.out.2.mono ?_
    rintro e w1 ⟨rfl, b1⟩
    have H1 := Lib.hid (HP.out.1.trans (b1.mono HP.out.1.size))
    clear b1 o0 o1 o2 o3 o4 zo
    go_wp2_with fail
    refine (awake_any _).mono ?_
    rintro e wl ⟨rfl, bn⟩
    have BL := Lib.hid (H1.out.trans (bn.mono H1.out.size))
    clear bn
    go_wp2_with fail
    go_ret
    exact ⟨rfl, BL.out⟩

theorem vessels_any (As : Option Addr) (cs : Nat) (p : Pol) (A : Option Addr) (c : Nat) (days : List Int) (Al : Option Addr) (cl : Nat) (l : List Psg) (v : Ves) (day tt : Int) (w : World)
    (hp : PolV w As cs p) (hcs : As = none → p.steps.length = 0 ∧ cs = 0) (hr : Rd w 1 A days.length (ints days)) (hrl : Rd w 5 Al l.length (pscs l)) (hcl : Al = none → l.length = 0 ∧ cl = 0) :
    Calls Tryz.prog 7 #[.agg #[.slice As p.steps.length cs, .int .i64 p.hold, .int .i64 p.calm, .int .i64 p.notice, .int .i64 p.grace], .slice A days.length c, .agg #[.int .i64 v.cls, .int .i64 v.ton, .bool v.esc], .int .i64 day, .int .i64 tt, .slice Al l.length cl] w fun e w' => e = .returned (.bool true) ∧ Below w.heap.size w w' := by
  by_cases h1 : longB p.steps.length days.length = true
  · exact vessels_long As cs p A c days Al cl l.length v day tt w (.inl h1)
  · by_cases h2 : (60 < l.length ∧ l.length ≤ 500) ∨ 520 < l.length
    · exact vessels_long As cs p A c days Al cl l.length v day tt w (.inr h2)
    · exact vessels_main As cs p A c days Al cl l v day tt w hp hcs hr hrl hcl (by simpa using h1) (by omega)
end Go.Proofs.YtbgnkljjgfcngaaGreat
/- cells of a chart -/
namespace Go.Proofs.YtbgnkljjgfcngaaGreat
open Go Go.RowKit Sp
set_option linter.unusedVariables false

/-- a cell of a chart: four spans -/
structure Cel where
  a0 : Int
  a1 : Int
  b0 : Int
  b1 : Int
  c0 : Int
  c1 : Int
  d0 : Int
  d1 : Int
deriving DecidableEq, Inhabited
def cel (x : Cel) : List Value := [.int .i64 x.a0, .int .i64 x.a1, .int .i64 x.b0, .int .i64 x.b1, .int .i64 x.c0, .int .i64 x.c1, .int .i64 x.d0, .int .i64 x.d1]
abbrev celA (x : Cel) : Array Value := #[.int .i64 x.a0, .int .i64 x.a1, .int .i64 x.b0, .int .i64 x.b1, .int .i64 x.c0, .int .i64 x.c1, .int .i64 x.d0, .int .i64 x.d1]
def cels (l : List Cel) : List Value := l.flatMap cel
theorem cels_one (l : List Cel) : ∀ u ∈ cels l, u.oneCell' = true := by
  intro u hu
  simp only [cels, cel, List.mem_flatMap] at hu
  obtain ⟨x, _, hx⟩ := hu
  simp at hx
  rcases hx with rfl | rfl | rfl | rfl | rfl | rfl | rfl | rfl <;> rfl
theorem cels_get {l : List Cel} {k : Nat} (hk : k < l.length) : (cels l)[k*8]? = some (.int .i64 l[k].a0) ∧ (cels l)[k*8+1]? = some (.int .i64 l[k].a1) ∧ (cels l)[k*8+2]? = some (.int .i64 l[k].b0) ∧ (cels l)[k*8+3]? = some (.int .i64 l[k].b1) ∧
    (cels l)[k*8+4]? = some (.int .i64 l[k].c0) ∧ (cels l)[k*8+5]? = some (.int .i64 l[k].c1) ∧ (cels l)[k*8+6]? = some (.int .i64 l[k].d0) ∧ (cels l)[k*8+7]? = some (.int .i64 l[k].d1) := by
  induction l generalizing k with
  | nil => simp at hk
  | cons s l ih =>
    cases k with
    | zero => simp [cels, cel]
    | succ k =>
      have h4 : ∀ j, (cels (s :: l))[8 + j]? = (cels l)[j]? := fun j => by
        simp only [cels, List.flatMap_cons, cel]
        rw [List.getElem?_append_right (by simp)]
        simp
      have e : ∀ j, (k+1)*8 + j = 8 + (k*8 + j) := fun j => by omega
      have e0 : (k+1)*8 = 8 + k*8 := by omega
      have hk' : k < l.length := by simpa using hk
      rw [e, e, e, e, e, e, e, e0, h4, h4, h4, h4, h4, h4, h4, h4]
      simpa using ih hk'
end Go.Proofs.YtbgnkljjgfcngaaGreat
/- lists of structs that are the same: true (printed by wip/tools/same.py) -/
namespace Go.Proofs.YtbgnkljjgfcngaaGreat
open Go Go.RowKit Sp
set_option linter.unusedVariables false

theorem sameCel (x : Cel) (w : World) : (binOp .neq 54 (.agg #[.int .i64 x.a0, .int .i64 x.a1, .int .i64 x.b0, .int .i64 x.b1, .int .i64 x.c0, .int .i64 x.c1, .int .i64 x.d0, .int .i64 x.d1]) (.agg #[.int .i64 x.a0, .int .i64 x.a1, .int .i64 x.b0, .int .i64 x.b1, .int .i64 x.c0, .int .i64 x.c1, .int .i64 x.d0, .int .i64 x.d1])).run Tryz.prog w = .ok (.bool false) w := by
  have u3 := Tryz.underlying3
  have a3 := Tryz.isAgg3
  have z3 := Tryz.sizeOf3
  have nu0 := Tryz.underlying33
  have na0 := Tryz.isAgg33
  have nz0 := Tryz.sizeOf33
  have nS0 : Tryz.prog.underlying 33 = some (.struct (Tryz.prog.fieldsOf 33)) := by kernel_rfl
  have np0 : Tryz.prog.stoodInHeld 33 = false := by kernel_rfl
  have hS : Tryz.prog.underlying 54 = some (.struct (Tryz.prog.fieldsOf 54)) := by kernel_rfl
  have hp : Tryz.prog.stoodInHeld 54 = false := by kernel_rfl
  rw [run_neq_struct, show (10000 : Nat) = 9999 + 1 from rfl, run_equalIn_agg w 9999 54 _ _ hS hp]
  simp only [Program.fieldsOf, Tryz.underlying54]
  go_simp

set_option maxHeartbeats 1000000 in
theorem eqCel_same (A : Option Addr) (c : Nat) (l : List Cel) (B : Option Addr) (d : Nat) (w : World) (hr : Rd w 8 A l.length (cels l)) (hr2 : Rd w 8 B l.length (cels l)) (hm : l.length ≤ 9223372036854775807) :
    Calls Tryz.prog 63 #[.slice A l.length c, .slice B l.length d] w fun e w' => e = .returned (.bool true) ∧ Below w.heap.size w w' := by
  go_enter Tryz.func63, Tryz.ntmps63
  go_wp2_with fail
  go_loopg [13] (l.length) (fun g i wr => ∃ k : Nat, g + k = l.length ∧ i = .int .i64 k ∧ Keep [] w wr)
  case atStart => exact ⟨0, rfl, rfl, Keep.refl _ _⟩
  case round =>
    obtain ⟨k, hk, rfl, hK⟩ := hrel
    have HB := Lib.hid hK
    by_cases hlt : k < l.length
    · obtain ⟨b, off, rfl, hbb, hc⟩ := hr.2 (by omega)
      obtain ⟨b2, off2, rfl, hbb2, hc2⟩ := hr2.2 (by omega)
      obtain ⟨x, hx'⟩ : ∃ x, x = l[k] := ⟨_, rfl⟩
      obtain ⟨s0, s1, s2, s3, s4, s5, s6, s7⟩ := cels_get hlt
      rw [← hx'] at s0 s1 s2 s3 s4 s5 s6 s7
      have bk : ∀ o u, w.cell? ⟨b, o, none⟩ = some u → wr.cell? ⟨b, o, none⟩ = some u := fun o u h => hK.cell h (by simp)
      have bk2 : ∀ o u, w.cell? ⟨b2, o, none⟩ = some u → wr.cell? ⟨b2, o, none⟩ = some u := fun o u h => hK.cell h (by simp)
      have c0 := bk (off + k*8) _ (hc _ _ s0)
      have d0 := bk2 (off2 + k*8) _ (hc2 _ _ s0)
      have c1 := bk (off + k*8 + 1) _ (hc _ _ s1)
      have d1 := bk2 (off2 + k*8 + 1) _ (hc2 _ _ s1)
      have c2 := bk (off + k*8 + 2) _ (hc _ _ s2)
      have d2 := bk2 (off2 + k*8 + 2) _ (hc2 _ _ s2)
      have c3 := bk (off + k*8 + 3) _ (hc _ _ s3)
      have d3 := bk2 (off2 + k*8 + 3) _ (hc2 _ _ s3)
      have c4 := bk (off + k*8 + 4) _ (hc _ _ s4)
      have d4 := bk2 (off2 + k*8 + 4) _ (hc2 _ _ s4)
      have c5 := bk (off + k*8 + 5) _ (hc _ _ s5)
      have d5 := bk2 (off2 + k*8 + 5) _ (hc2 _ _ s5)
      have c6 := bk (off + k*8 + 6) _ (hc _ _ s6)
      have d6 := bk2 (off2 + k*8 + 6) _ (hc2 _ _ s6)
      have c7 := bk (off + k*8 + 7) _ (hc _ _ s7)
      have d7 := bk2 (off2 + k*8 + 7) _ (hc2 _ _ s7)
      clear bk bk2 s0 s1 s2 s3 s4 s5 s6 s7
      have hkI : (0 : Int) ≤ (k : Int) ∧ (k : Int) < (l.length : Int) := by omega
      clear hx' hK hc hc2 hr hr2
      have hne : ∀ w, (binOp .neq 54 (.agg #[.int .i64 x.a0, .int .i64 x.a1, .int .i64 x.b0, .int .i64 x.b1, .int .i64 x.c0, .int .i64 x.c1, .int .i64 x.d0, .int .i64 x.d1]) (.agg #[.int .i64 x.a0, .int .i64 x.a1, .int .i64 x.b0, .int .i64 x.b1, .int .i64 x.c0, .int .i64 x.c1, .int .i64 x.d0, .int .i64 x.d1])).run Tryz.prog w = .ok (.bool false) w := fun w => sameCel x w
      go_upto_region 6 with fail
      go_quiet (fail)
      go_wp2_with fail
      go_roundg (gk - 1)
      case measure => omega
      case rel => exact ⟨k + 1, by omega, by go_num, HB.out.drewN _⟩
    · obtain rfl : k = l.length := by omega
      clear hK
      go_wp2_with fail
      go_ret
      exact ⟨rfl, HB.out.below (Nat.le_refl _) (by simp)⟩
end Go.Proofs.YtbgnkljjgfcngaaGreat
/- polynyakit.CopySpans -/
namespace Go.Proofs.YtbgnkljjgfcngaaGreat
open Go Go.RowKit Sp
set_option linter.unusedVariables false

theorem spcs_one (l : List (Int × Int)) : ∀ u ∈ spcs l, u.oneCell' = true := by
  intro u hu
  simp only [spcs, spc, List.mem_flatMap] at hu
  obtain ⟨x, _, hx⟩ := hu
  simp at hx
  rcases hx with rfl | rfl <;> rfl
set_option maxRecDepth 100000 in
set_option maxHeartbeats 1000000 in
theorem copySpans_any (A : Option Addr) (c : Nat) (l : List (Int × Int)) (w : World) (hr : Rd w 2 A l.length (spcs l)) (hl : l.length ≤ 100000000) :
    Calls Tryz.prog 53 #[.slice A l.length c] w fun e w' => ∃ A1 c1, e = .returned (.slice A1 l.length c1) ∧ Rd w' 2 A1 l.length (spcs l) ∧ l.length ≤ c1 ∧ c1 ≤ 9223372036854775807 ∧ Below w.heap.size w w' := by
  obtain ⟨i0, hi, hz0, hz1, hz2⟩ := info_parts info_span
  have HR := Lib.hid hr
  clear hr
  go_enter Tryz.func53, Tryz.ntmps53
  go_wp2_with (at_builtin
               refine wpList_append_M rfl (.tmp 4) (.tmp 5) 46 rfl i0 _ 16 Tryz.underlying46 hi hz0 hz1 hz2 rfl (A := none) (n := 0) (c := 0) (B := A) (m := l.length) (d := c) (xs := []) (fp := []) (ys := spcs l) (by simp [Act.eval]) (by simp [Act.eval]) (OwnS.nil _ _ _) HR.out (spcs_one l) (by omega) (by omega) ?_
               intro A' c' w' fp' h1 h2 h3
               have HQ := Lib.hid (And.intro h1 (And.intro h2 h3))
               clear h1 h2 h3)
  go_ret
  have h1 := HQ.out.1
  rw [Nat.zero_add, List.nil_append] at h1
  exact ⟨A', c', by simp, h1.rd, h1.ge, h1.cap, HQ.out.2.2.below (Nat.le_refl _) (by simp)⟩
end Go.Proofs.YtbgnkljjgfcngaaGreat
