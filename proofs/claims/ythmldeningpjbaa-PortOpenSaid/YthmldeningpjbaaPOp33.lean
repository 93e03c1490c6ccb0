/- PortOpen: the walk (printed by wip/tools/ptopen.py) -/
import Derived.Test.YthmldeningpjbaaPOp32
set_option linter.unusedVariables false
set_option linter.unusedSimpArgs false
namespace Go.Proofs.Ythmldeningpjbaa
open Go Go.RowKit Go.Lib Sp Pt
set_option linter.unusedVariables false
set_option linter.unusedSimpArgs false

def Po10Cnt (l : Nat → Bool) : Nat := (if l 3 then 1 else 0)
set_option linter.unusedVariables false
def Po10V (ib dl sb : Nat) (x0 : Int) (k : Nat) (A : Option Addr) (c : Nat) (s : ApS) : Nat → Value → Prop
  | 0, v => v = .pointer (some ⟨sb, 0, none⟩)
  | 1, v => v = .slice A k c
  | 2, v => v = .func (.func 70) #[] #[.pointer (some ⟨ib, 0, none⟩), .pointer (some ⟨dl, 0, none⟩)]
  | 3, v => v = .int .i64 x0
  | 4, v => v = .slice (some ⟨s.bs, 0, none⟩) 1 1
  | 5, v => v = .slice s.A (k + 1) s.c
  | 6, v => v = .pointer (some ⟨sb, 0, none⟩)
  | _, _ => True
set_option linter.unusedVariables false
def Po21V (W0 : World) (SB_ GB_ GS_ OS_ N_ CS_ CR_ K_ : Nat) (X_ Y_ M_ : Int) : Nat → Value → Prop
  | 0, v => v = .pointer (some ⟨SB_, 0, none⟩)
  | 1, v => v = .slice (some ⟨GB_, 0, none⟩) N_ CR_
  | 2, v => v = .int .i64 K_
  | 3, v => v = .pointer (some ⟨SB_, 0, none⟩)
  | 4, v => v = .slice (some ⟨GB_, 0, none⟩) N_ CR_
  | 5, v => v = .int .i64 K_
  | 6, v => v = .pointer (some ⟨GB_, K_, none⟩)
  | 7, v => v = .int .i64 X_
  | 8, v => v = .slice (some ⟨GS_, OS_, none⟩) N_ CS_
  | 9, v => v = .int .i64 K_
  | 10, v => v = .pointer (some ⟨GS_, OS_ + K_, none⟩)
  | 11, v => v = .int .i64 Y_
  | 12, v => v = .int .i64 M_
  | 13, v => v = .pointer (some ⟨GB_, K_, none⟩)
  | _, _ => True
def Po21W (W0 : World) (SB_ GB_ GS_ OS_ N_ CS_ CR_ K_ : Nat) (X_ Y_ M_ : Int) (l : Nat → Bool) (w : World) : Prop := if l 14 then w = (W0.setCell ⟨GB_, K_, none⟩ (.int .i64 M_)).drew else w = W0.drew
def MinB (s0 st : List Int) (k : Nat) (b : List Int) : Prop := b.length = s0.length ∧ ∀ i : Nat, i < s0.length → getI b i = if i < k then min (getI s0 i) (getI st i) else getI s0 i
theorem MinB.step {s0 st b : List Int} {k : Nat} {m : Int} (h : MinB s0 st k b) (hk : k < s0.length) (hm : m = if getI st k < getI b k then getI st k else getI b k) : MinB s0 st (k + 1) (b.set k m) := by
  refine ⟨by rw [List.length_set]; exact h.1, fun i hi => ?_⟩
  have h0 := h.2 i hi
  by_cases e : i = k
  · subst e
    rw [if_neg (by omega)] at h0
    have e2 : getI (b.set i m) i = m := by simp [getI, h.1, hk]
    rw [e2, if_pos (by omega), hm, h0]
    split <;> omega
  · have e2 : getI (b.set k m) i = getI b i := by unfold getI; simp [List.getD_eq_getElem?_getD, List.getElem?_set, Ne.symm e]
    rw [e2, h0]
    by_cases h2 : i < k
    · rw [if_pos h2, if_pos (by omega)]
    · rw [if_neg h2, if_neg (by omega)]

set_option maxRecDepth 100000 in
set_option maxHeartbeats 4000000 in
theorem open_any (A0 : Option Addr) (c0 : Nat) (l0 : List Int) (A1 : Option Addr) (c1 : Nat) (l1 : List Int) (A2 : Option Addr) (c2 : Nat) (l2 : List Int) (more : Int) (w : World)
    (hr0 : Rd w 1 A0 l0.length (byts l0)) (hl0 : Bytes l0) (hm0 : l0.length ≤ 9223372036854775800) (hr1 : Rd w 1 A1 l1.length (byts l1)) (hl1 : Bytes l1) (hm1 : l1.length ≤ 9223372036854775800) (hr2 : Rd w 1 A2 l2.length (byts l2)) (hl2 : Bytes l2) (hm2 : l2.length ≤ 9223372036854775800) (hmo : 0 ≤ more ∧ more ≤ 255) :
    Calls Try.prog 3 #[.slice A0 l0.length c0, .slice A1 l1.length c1, .slice A2 l2.length c2, .int .u8 more] w fun e w' => e = .returned (.bool true) ∧ Below w.heap.size w w' := by
  obtain ⟨iB, hB0, hB1, hB2, hB3⟩ := info_parts info_boolP
  obtain ⟨iI, hI0, hI1, hI2, hI3⟩ := info_parts info_intP
  have HR0 := Lib.hid (And.intro hr0 (And.intro hl0 hm0))
  have HR1 := Lib.hid (And.intro hr1 (And.intro hl1 hm1))
  have HR2 := Lib.hid (And.intro hr2 (And.intro hl2 hm2))
  clear hr0 hl0 hm0 hr1 hl1 hm1 hr2 hl2 hm2
  go_enter Try.func3, Try.ntmps3
  obtain ⟨w1, hw1⟩ : ∃ x : World, x = x := ⟨w, rfl⟩
  clear hw1 w1
  go_upto_region 2 with (go_at_call 12; refine (Made9_any A0 c0 l0 w HR0.out.1 HR0.out.2.1 (by have := HR0.out.2.2; omega)).mono ?_; rintro e w1 ⟨Ac, cc, Ab, cb, p, rfl, hp, PB, b1⟩; have H1 := Lib.hid (And.intro hp (And.intro PB b1)); clear hp PB b1)
  obtain ⟨pb, hpb⟩ : ∃ b, b = w1.heap.size := ⟨_, rfl⟩
  obtain ⟨X1, hX1⟩ : ∃ X, X = w1.alloc (.cells (prtV Ac cc Ab cb p) 26) := ⟨_, rfl⟩
  rw [← hX1, ← hpb]
  have bX1 : Below w1.heap.size w1 X1 := by rw [hX1]; exact (Below.refl _ _).alloc (Nat.le_refl _) _
  have kpl : Calls Try.prog 13 #[.agg (prtV Ac cc Ab cb p), .slice A1 l1.length c1] X1 (PlanPost X1 p) := Planned_any w1.heap.size Ac cc Ab cb p A1 c1 l1 X1 (H1.out.2.1.below bX1) H1.out.1 bX1.size (HR1.out.1.below (H1.out.2.2.trans (bX1.mono H1.out.2.2.size))) HR1.out.2.1 (by have := HR1.out.2.2; omega)
  have gp : X1.heap[pb]? = some (.cells (prtV Ac cc Ab cb p) 26 (0, 0)) := by rw [hX1, hpb]; exact heap_alloc_new _ _
  have q0 : X1.cell? ⟨pb, 0, none⟩ = some (.slice Ac p.chs.length cc) := (cell_of_heap gp 0).trans rfl
  have q1 : X1.cell? ⟨pb, 1, none⟩ = some (.slice Ab p.bts.length cb) := (cell_of_heap gp 1).trans rfl
  have q2 : X1.cell? ⟨pb, 2, none⟩ = some (.int .i64 p.tugs) := (cell_of_heap gp 2).trans rfl
  have zp := heap_lt gp
  have HP1 := Lib.hid (And.intro kpl (And.intro hX1 (And.intro hpb bX1)))
  clear kpl gp hX1 hpb bX1
  go_upto_region 3 with (go_at_call 13; refine HP1.out.1.mono ?_; rintro e w2 ⟨Al, cl, As, cs, l, rfl, hl, LB, b2⟩; have H2 := Lib.hid (And.intro hl (And.intro LB b2)); clear hl LB b2)
  obtain ⟨c, hc⟩ : ∃ c : PoC, c = ⟨w1.heap.size, w2.heap.size, Ac, cc, Ab, cb, p, Al, cl, As, cs, l⟩ := ⟨_, rfl⟩
  obtain ⟨X2, hX2⟩ : ∃ X, X = w2.alloc (.cells (plnV Al cl As cs l) 31) := ⟨_, rfl⟩
  have E2 : PoE c X2 := by
    rw [hc, hX2]
    refine PoE.made H1.out.2.1 H2.out.2.1 ?_
    have := H2.out.2.2
    rw [HP1.out.2.1, World.size_alloc] at this
    exact this
  have b2 : Below w.heap.size w X2 := by
    rw [hX2]
    have h := (H1.out.2.2.trans (HP1.out.2.2.2.mono H1.out.2.2.size)).trans (H2.out.2.2.mono (by have := H1.out.2.2.size; have := HP1.out.2.2.2.size; omega))
    exact h.alloc h.size _
  have HMd : Hid (MdP c.p ∧ MdL c.p c.l) := Lib.hid (by rw [hc]; exact ⟨H1.out.1, H2.out.1⟩)
  have HC := Lib.hid (And.intro E2 b2)
  have ep : pb = c.pb := by rw [HP1.out.2.2.1, hc]
  have el : w2.heap.size = c.lb := by rw [hc]
  have e0 : Ac = c.Ac ∧ cc = c.cc ∧ Ab = c.Ab ∧ cb = c.cb ∧ p = c.p ∧ Al = c.Al ∧ cl = c.cl ∧ As = c.As ∧ cs = c.cs ∧ l = c.l := by rw [hc]; exact ⟨rfl, rfl, rfl, rfl, rfl, rfl, rfl, rfl, rfl, rfl⟩
  obtain ⟨e1, e2, e3, e4, e5, e6, e7, e8, e9, e10⟩ := e0
  rw [← hX2, el, ep]
  clear q0 q1 q2 zp E2 b2 hX2 hc el
  clear HP1 H1 H2
  subst e1 e2 e3 e4 e5 e6 e7 e8 e9 e10 ep
  have kst := Stays_any X2.heap.size c.Ac c.cc c.Ab c.cb c.p c.Al c.cl c.As c.cs c.l X2 HC.out.1.PB HC.out.1.LB (Nat.le_refl _)
  have KST := Lib.hid kst
  obtain ⟨q0, q1, q2, q3, q4, q5, zp, zl⟩ := HC.out.1.cells
  have herr := stays_err HMd.out.1 HMd.out.2
  clear kst
  go_upto_region 4 with (go_at_call 14; refine KST.out.mono ?_; rintro e Y3 ⟨Ast, cst, qst, rfl, ost, fst, bst⟩; have HST := Lib.hid (And.intro ost (And.intro fst bst)); clear ost fst bst)
  clear q0 q1 q2 q3 q4 q5 zp zl KST
  have HC3 := Lib.hid (And.intro (HC.out.1.below HST.out.2.2) (HC.out.2.trans (HST.out.2.2.mono HC.out.2.size)))
  rcases herr with h0 | h9 | ⟨h4, ht⟩
  · --A
    rw [h0]
    have HS0 := Lib.hid h0
    clear h0
    have kdr : Calls Try.prog 16 #[.slice A2 l2.length c2] Y3 (DrawnPost Y3.heap.size Y3) := drawn_at Y3.heap.size A2 c2 l2 w Y3 HR2.out.1 HR2.out.2.1 HR2.out.2.2 HC3.out.2 HC3.out.2.size (Nat.le_refl _)
    have HDR := Lib.hid kdr
    clear kdr
    go_upto_region 7 with (go_at_call 16; refine HDR.out.mono ?_; rintro e w3 ⟨ib, dl, rfl, nx1, hib, hdl, b1⟩; have S3 := Lib.hid ((Own.start Y3).new b1 (i := .nx ib dl) nx1 (by simp [It.fp]; omega)); have HB3 := Lib.hid b1; clear nx1 hib hdl b1)
    clear HDR
    have E3 := HC3.out.1.below HB3.out
    obtain ⟨q0, q1, q2, q3, q4, q5, zp, zl⟩ := E3.cells
    have hnb := HMd.out.1.nb
    have hnc := HMd.out.1.nc
    have mk := run_make_bools (P := Try.prog) 40 4 iB Try.underlying40 hB0 hB1 hB2 hB3 c.p.bts.length (by omega) w3
    clear E3
    go_upto_region 8 with fail
    obtain ⟨ub, hub⟩ : ∃ b, b = w3.heap.size := ⟨_, rfl⟩
    obtain ⟨sb, hsb⟩ : ∃ b, b = w3.heap.size + 1 := ⟨_, rfl⟩
    obtain ⟨X4, hX4⟩ : ∃ X, X = (w3.alloc (.cells (falses c.p.bts.length) 4)).alloc (.cells #[.slice none 0 0, .slice (some ⟨ub, 0, none⟩) c.p.bts.length c.p.bts.length] 42) := ⟨_, rfl⟩
    rw [← hsb, ← hub, ← hX4]
    have S4 : Own Y3.heap.size Y3 [.nx ib dl, .blk sb (.cells #[.slice (none) (0) (0), .slice (some ⟨ub, 0, none⟩) c.p.bts.length c.p.bts.length] 42 (0, 0)), .own 3 1 (none) (0) (0) (ints ([])) [], .own 4 1 (some ⟨ub, 0, none⟩) c.p.bts.length c.p.bts.length (bools (noB c.p)) [ub]] X4 := by
      have h1 := S3.out.alloc (.cells (falses c.p.bts.length) 4)
      have h2 := (S3.out.below ((Below.refl _ _).alloc (Nat.le_refl _) (.cells (falses c.p.bts.length) 4))).alloc (.cells #[.slice none 0 0, .slice (some ⟨ub, 0, none⟩) c.p.bts.length c.p.bts.length] 42)
      rw [World.size_alloc, ← hsb, ← hX4] at h2
      have h3 := h2.new (i := .own 3 1 none 0 0 (ints []) []) (Below.refl _ _) (OwnS.nil _ _ _) (by simp [It.fp])
      refine h3.add (i := .own 4 1 (some ⟨ub, 0, none⟩) c.p.bts.length c.p.bts.length (bools (noB c.p)) [ub]) ?_ ?_ ?_
      · refine ⟨by simp [bools, noB], .inr ⟨ub, falses c.p.bts.length, rfl, rfl, ?_, Nat.le_refl _, by omega, by simp [falses], fun j u hu => by unfold falses; rw [List.getElem?_toArray]; simpa [bools, noB] using hu⟩⟩
        rw [hX4, hub]; exact heap_alloc' (heap_alloc_new _ _) _
      · have := S3.out.lo; simp [It.fp]; omega
      · have h0 := (S3.out.nxt 0 rfl).lt
        simp [It.fp]; omega
    have HS4 := Lib.hid S4
    have HB34 : Hid (Below w3.heap.size w3 X4) := Lib.hid (by rw [hX4]; exact ((Below.refl _ _).alloc (Nat.le_refl _) _).alloc (by simp) _)
    clear q0 q1 q2 q3 q4 q5 zp zl mk hX4 hsb hub S4
    have E4 := HC3.out.1.below (HB3.out.trans (HB34.out.mono HB3.out.size))
    obtain ⟨q0, q1, q2, q3, q4, q5, zp, zl⟩ := E4.cells
    clear E4
    go_wp2_with fail
    clear q0 q1 q2 q3 q4 q5 zp zl
    go_loopg [63] c.p.chs.length (fun g i wx => ∃ (k : Nat) (b : List Int) (Ar : Option Addr) (cr : Nat) (q : List Nat), g + k = c.p.chs.length ∧ i = .int .i64 k ∧ b.length = k ∧ BrOk 200 b ∧ Own Y3.heap.size Y3 [.nx ib dl, .blk sb (.cells #[.slice (Ar) (k) (cr), .slice (some ⟨ub, 0, none⟩) c.p.bts.length c.p.bts.length] 42 (0, 0)), .own 3 1 (Ar) (k) (cr) (ints (b)) q, .own 4 1 (some ⟨ub, 0, none⟩) c.p.bts.length c.p.bts.length (bools (noB c.p)) [ub]] wx)
    case atStart => exact ⟨0, [], none, 0, [], rfl, rfl, rfl, (fun x hx => by cases hx), HS4.out⟩
    case round =>
      obtain ⟨k, b, Ar, cr, q, hk, rfl, hbl, hbo, hO⟩ := hrel
      have HS := Lib.hid (And.intro hO (And.intro hbo hbl))
      by_cases hlt : k < c.p.chs.length
      · obtain ⟨A0', c0', l0', k0, hdr, hby, hln, hne, hap⟩ := hO.draws 0 rfl
        obtain ⟨x0, hx0⟩ : ∃ x, x = draw l0' k0 200 := ⟨_, rfl⟩
        have r0 := draw_range (l := l0') k0 (n := 200) (by decide)
        rw [← hx0] at r0
        obtain ⟨C, hC⟩ : ∃ C : ApC, C = ⟨ib, dl, k0, A0', c0', l0', sb, 3, 1, k, Ar, cr, ints b, q, [.int .i64 x0], #[.slice Ar k cr, .slice (some ⟨ub, 0, none⟩) c.p.bts.length c.p.bts.length], fun A c' => #[.slice A (k + 1) c', .slice (some ⟨ub, 0, none⟩) c.p.bts.length c.p.bts.length], 42⟩ := ⟨_, rfl⟩
        have O : ApOk C wr := by
          subst hC
          exact hO.apOk 0 1 2 rfl rfl rfl (by decide) (by decide) (by decide) hdr hby hln hne hap
        have HX := Lib.hid (And.intro hx0 (And.intro O (And.intro hC hap)))
        clear hx0 O hdr hby hln hne hap hO hbo hbl
        subst hC
        go_upto_region 10 with fail
        refine wp_region_steps (σ := ApS) (by kernel_rfl) (by kernel_rfl) (fun sg jx vx _ => Po10V ib dl sb x0 k Ar cr sg jx vx) (fun sg ly wx => ApW ⟨ib, dl, k0, A0', c0', l0', sb, 3, 1, k, Ar, cr, ints b, q, [.int .i64 x0], #[.slice Ar k cr, .slice (some ⟨ub, 0, none⟩) c.p.bts.length c.p.bts.length], fun A c' => #[.slice A (k + 1) c', .slice (some ⟨ub, 0, none⟩) c.p.bts.length c.p.bts.length], 42⟩ 4 5 7 Po10Cnt wr sg ly wx) ⟨0, none, 0, 0⟩ ?_ ?_ ?_
        · exact HX.out.2.1.start (by simp [Po10Cnt])
        · simp only [AllFrom, Nat.zero_add, Nat.reduceAdd]
          refine ⟨?_, ?_, ?_, ?_, ?_, ?_, ?_, ?_, trivial⟩
          · refine step_pure fun sg ly a wx hl hd hW hF => ?_
            have et14 := hF.old 14 (by kernel_rfl)
            simp [Act.eval] at et14
            exact ⟨hW.other HX.out.2.1 _ (by decide) (by simp [Po10Cnt, upd]), .pointer (some ⟨sb, 0, none⟩), by go_simp, rfl⟩
          · refine step_pure fun sg ly a wx hl hd hW hF => ?_
            simp [Region.binds] at hd
            have et65 := hF.new 0 65 (by simp [hd]) rfl
            simp [Po10V, Act.eval] at et65
            have nS := hF.notYet 1 7 hl (by kernel_rfl)
            have hh := hW.hob
            rw [if_neg (by simp [nS])] at hh
            have cL := (cell_of_heap hh 0).trans rfl
            have zL := heap_lt hh
            exact ⟨hW.other HX.out.2.1 _ (by decide) (by simp [Po10Cnt, upd]), _, by go_simp, rfl⟩
          · refine step_pure fun sg ly a wx hl hd hW hF => ?_
            have et13 := hF.old 13 (by kernel_rfl)
            simp [Act.eval] at et13
            exact ⟨hW.other HX.out.2.1 _ (by decide) (by simp [Po10Cnt, upd]), .func (.func 70) #[] #[.pointer (some ⟨ib, 0, none⟩), .pointer (some ⟨dl, 0, none⟩)], by go_simp, rfl⟩
          · refine step_call fun sg ly a wx hl hd hW hF => ?_
            simp [Region.binds] at hd
            have et67 := hF.new 2 67 (by simp [hd]) rfl
            simp [Po10V, Act.eval] at et67
            have hq := hW.next HX.out.2.1 (200) (by decide)
            rw [show Po10Cnt ly = 0 from by simp [Po10Cnt, hl]] at hq
            refine ⟨70, #[.int .i64 (200), .pointer (some ⟨ib, 0, none⟩), .pointer (some ⟨dl, 0, none⟩)], by go_simp, ?_⟩
            refine hq.mono ?_
            rintro e w2 ⟨rfl, d2, k2, s2⟩
            exact ⟨.int .i64 x0, sg, by rw [HX.out.1] <;> rfl, hW.call HX.out.2.1 _ (by decide) (by rw [show Po10Cnt (upd ly 3) = 1 from by simp [Po10Cnt, upd, hl]]; exact d2) k2, rfl, fun _ _ _ h => h⟩
          · refine step_run fun sg ly a wx hl hd hW hF => ?_
            simp [Region.binds] at hd
            have et68 := hF.new 3 68 (by simp [hd]) rfl
            simp [Po10V, Act.eval] at et68
            refine ⟨_, wx.alloc (.cells #[.int .i64 x0] 3), { sg with bs := wx.heap.size }, by go_simp, hW.build HX.out.2.1 (by decide) (by simp [Po10Cnt, upd]), rfl, ?_⟩
            intro i u hi h
            have i4 : i ≠ 4 := by rintro rfl; rw [hl] at hi; cases hi
            unfold Po10V at h ⊢
            split at h <;> first | exact h | exact absurd rfl i4
          · intro sg ly a wx hl hd hW hF
            simp [Region.binds] at hd
            have et66 := hF.new 1 66 (by simp [hd]) rfl
            simp [Po10V, Act.eval] at et66
            have et69 := hF.new 4 69 (by simp [hd]) rfl
            simp [Po10V, Act.eval] at et69
            have nS := hF.notYet 5 7 hl (by kernel_rfl)
            have yB : ly 4 = true := by simp [hd]
            refine hW.at_append HX.out.2.1 (.tmp 66) (.tmp 69) 33 rfl iI _ 8 Try.underlying33 hI0 hI1 hI2 (show (0 : Nat) < 1 from by decide) hI3 rfl (by simpa [Act.eval] using et66) (by simpa [Act.eval] using et69) rfl (by simp [Value.oneCell']) (by simp only; omega) (by omega) (by decide) (by simp [Po10Cnt, upd]) yB hl nS ?_
            intro g c' w' h'
            refine ⟨{ sg with A := some ⟨g, 0, none⟩, c := c', g := g }, _, rfl, h', fun _ => rfl, ?_⟩
            intro i u hi h
            have i5 : i ≠ 5 := by rintro rfl; rw [hl] at hi; cases hi
            unfold Po10V at h ⊢
            split at h <;> first | exact h | exact absurd rfl i5
          · refine step_pure fun sg ly a wx hl hd hW hF => ?_
            have et14 := hF.old 14 (by kernel_rfl)
            simp [Act.eval] at et14
            exact ⟨hW.other HX.out.2.1 _ (by decide) (by simp [Po10Cnt, upd]), .pointer (some ⟨sb, 0, none⟩), by go_simp, rfl⟩
          · refine step_store rfl fun sg ly a wx hl hd hW hF => ?_
            simp [Region.binds] at hd
            have et71 := hF.new 6 71 (by simp [hd]) rfl
            simp [Po10V, Act.eval] at et71
            have et70 := hF.new 5 70 (by simp [hd]) rfl
            simp [Po10V, Act.eval] at et70
            have yA : ly 5 = true := by simp [hd]
            have hh := hW.hob
            rw [if_neg (by simp [hl])] at hh
            have cL := (cell_of_heap hh 0).trans rfl
            have fL := frozen_of_heap hh 0
            have zL := heap_lt hh
            exact ⟨_, sg, .skip, by go_simp, .inl rfl, hW.store HX.out.2.1 (by decide) (by simp [Po10Cnt, upd]) 0 (fun _ _ => rfl) yA hl, fun _ _ _ h => h⟩
        intro sg af w8 hWW hF
        obtain ⟨ff, hf, rfl⟩ := hF.lit
        have S8 := HS.out.1.apDone 0 1 2 rfl rfl rfl (by decide) (by decide) (by decide) HX.out.2.2.2 HX.out.2.1 hWW rfl rfl
        have S8' : Own Y3.heap.size Y3 [.nx ib dl, .blk sb (.cells #[.slice (sg.A) (k + 1) (sg.c), .slice (some ⟨ub, 0, none⟩) c.p.bts.length c.p.bts.length] 42 (0, 0)), .own 3 1 (sg.A) (k + 1) (sg.c) (ints (b ++ [x0])) [sg.g], .own 4 1 (some ⟨ub, 0, none⟩) c.p.bts.length c.p.bts.length (bools (noB c.p)) [ub]] w8 := by
          have h := S8
          simp only [ints_snoc] at h
          exact h
        have HS8 := Lib.hid S8'
        clear hf hF hWW S8 S8'
        simp only [List.filterMap, List.foldl, List.setIfInBounds_toArray, List.set_cons_succ, List.set_cons_zero]
        go_wp2_with fail
        go_roundg (gk - 1)
        case measure => omega
        case rel => exact ⟨k + 1, b ++ [x0], _, _, _, by omega, by go_num, by rw [List.length_append, HS.out.2.2]; rfl, HS.out.2.1.snoc r0, HS8.out⟩
      · obtain rfl : k = c.p.chs.length := by omega
        clear hO hbo hbl
        obtain ⟨gb, rfl, _⟩ := (HS.out.1.owns 2 rfl).some_ (by omega)
        obtain ⟨s, hs⟩ : ∃ s : StC, s = ⟨sb, gb, cr, ub, b⟩ := ⟨_, rfl⟩
        have SE : StE c s wr := by
          subst hs
          exact StE.of (by simp only [HS.out.2.2]; exact HS.out.1.heap 1 rfl) (by simp only [HS.out.2.2]; exact HS.out.1.owns 2 rfl) (HS.out.1.owns 3 rfl)
        have EE : PoE c wr := HC3.out.1.below HS.out.1.bel
        have bw : Below w.heap.size w wr := HC3.out.2.trans (HS.out.1.bel.mono HC3.out.2.size)
        obtain ⟨e1, e2, e3, e4, e5⟩ : sb = s.sb ∧ gb = s.gb ∧ cr = s.cr ∧ ub = s.ub ∧ b = s.b := by subst hs; exact ⟨rfl, rfl, rfl, rfl, rfl⟩
        have hsl : s.b.length = c.p.chs.length ∧ BrOk 200 s.b := by rw [← e5]; exact ⟨HS.out.2.2, HS.out.2.1⟩
        have HSL := Lib.hid hsl
        have how : OwnS wr 3 1 (some ⟨s.gb, 0, none⟩) c.p.chs.length s.cr (ints s.b) [s.gb] ∧ s.gb ≠ s.sb ∧ s.gb ≠ s.ub ∧ Y3.heap.size ≤ s.gb := by
          subst hs
          have h2 : q = [gb] := by
            obtain ⟨g, e, e2, _⟩ := (HS.out.1.owns 2 rfl).some_ (by omega)
            injection e with e
            injection e with e _ _
            rw [e2, e]
          subst h2
          exact ⟨HS.out.1.owns 2 rfl, HS.out.1.ne 2 1 rfl rfl (by decide) (by simp [It.fp]) (by simp [It.fp]), HS.out.1.ne 2 3 rfl rfl (by decide) (by simp [It.fp]) (by simp [It.fp]), HS.out.1.ge 2 rfl (by simp [It.fp])⟩
        have HOW := Lib.hid how
        have HBW := Lib.hid HS.out.1.bel
        clear how
        have HE := Lib.hid (And.intro EE (And.intro SE bw))
        clear SE EE bw hs hsl
        clear HS
        subst e1 e2 e3 e4 e5
        have CC0 := HE.out.1.cells
        have SC0 := HE.out.2.1.cells
        obtain ⟨q0, q1, q2, q3, q4, q5, zp, zl⟩ := CC0
        obtain ⟨r0, r1, zs⟩ := SC0
        rw [HSL.out.1] at r0
        have kwn := Worn_any wr.heap.size c.Ac c.cc c.Ab c.cb c.p c.Al c.cl c.As c.cs c.l wr HE.out.1.PB HE.out.1.LB (Nat.le_refl _)
        have KWN := Lib.hid kwn
        clear kwn
        go_upto_region 13 with (go_at_call 17; refine KWN.out.mono ?_; rintro e w5 ⟨rfl, b5⟩; have HB5 := Lib.hid b5; clear b5)
        clear KWN q0 q1 q2 q3 q4 q5 zp zl r0 r1 zs
        obtain ⟨ab, hab⟩ : ∃ b, b = w5.heap.size := ⟨_, rfl⟩
        obtain ⟨X5, hX5⟩ : ∃ X, X = w5.alloc (.cells #[.int .i64 (wornA c.p c.l)] 3) := ⟨_, rfl⟩
        rw [← hX5, ← hab]
        have gab : X5.heap[ab]? = some (.cells #[.int .i64 (wornA c.p c.l)] 3 (0, 0)) := by rw [hX5, hab]; exact heap_alloc_new _ _
        have bX5 : Below wr.heap.size wr X5 := by rw [hX5]; exact HB5.out.alloc HB5.out.size _
        have H5 := Lib.hid (And.intro (HE.out.1.below bX5) (And.intro (HE.out.2.1.below bX5) (And.intro (HE.out.2.2.trans (bX5.mono HE.out.2.2.size)) (And.intro gab bX5))))
        have hab0 := (cell_of_heap gab 0).trans rfl
        have zab := heap_lt gab
        clear gab bX5 hX5 hab
        have hwe : wornE c.p c.l = 4 := worn_none HMd.out.1 HMd.out.2 HS0.out
        rw [show wornV c.p c.l = 0 from by unfold wornV; rw [if_neg (by rw [hwe]; decide)], hwe]
        clear hwe
        obtain ⟨q0, q1, q2, q3, q4, q5, zp, zl⟩ := H5.out.1.cells
        obtain ⟨r0, r1, zs⟩ := H5.out.2.1.cells
        rw [HSL.out.1] at r0
        have hstl : (staysV c.p c.l).length = c.p.chs.length := (stays_mq HMd.out.1 HMd.out.2 HS0.out (i := 0) (by omega)).2.2.1
        rw [hstl]
        obtain ⟨gst, ofs, rfl⟩ : ∃ g o, Ast = some ⟨g, o, none⟩ := by have h := HST.out.1.rd; rw [hstl] at h; obtain ⟨g, o, e, _⟩ := h.2 (by omega); exact ⟨g, o, e⟩
        have RST : ∀ wx, Below Y3.heap.size Y3 wx → Rd wx 1 (some ⟨gst, ofs, none⟩) c.p.chs.length (ints (staysV c.p c.l)) := fun wx b => by have h := HST.out.1.rd; rw [hstl] at h; exact h.below b
        have HRS := Lib.hid (And.intro RST hstl)
        have bY5 : Below Y3.heap.size Y3 X5 := HBW.out.trans (H5.out.2.2.2.2.mono HBW.out.size)
        have how5 := HOW.out.1.keepS (Keep.of_below (S := []) H5.out.2.2.2.2) (by simp)
        have HY := Lib.hid (And.intro bY5 how5)
        clear RST hstl bY5 how5
        go_upto_if 106 with fail
        go_cut [8, 18] from 107 to 139 (fun _ _ wx => ∃ b : List Int, MinB s.b (staysV c.p c.l) c.p.chs.length b ∧ OwnS wx 3 1 (some ⟨s.gb, 0, none⟩) c.p.chs.length s.cr (ints b) [s.gb] ∧ Keep [s.gb] X5 wx)
        case first =>
          go_wp2_with fail
          clear q0 q1 q2 q3 q4 q5 zp zl r0 r1 zs hab0 zab
          go_loopg [120] c.p.chs.length (fun g i wx => ∃ (k : Nat) (b : List Int), g + k = c.p.chs.length ∧ i = .int .i64 k ∧ MinB s.b (staysV c.p c.l) k b ∧ OwnS wx 3 1 (some ⟨s.gb, 0, none⟩) c.p.chs.length s.cr (ints b) [s.gb] ∧ Keep [s.gb] X5 wx)
          case atStart => exact ⟨0, s.b, rfl, rfl, ⟨rfl, fun i _ => by simp⟩, HY.out.2, Keep.refl _ _⟩
          case round =>
            obtain ⟨k, b, hk, rfl, hmb, hown, hkp⟩ := hrel
            have bY := HY.out.1.trans (hkp.below HY.out.1.size (by simp; exact HOW.out.2.2.2))
            have HK := Lib.hid (And.intro hmb (And.intro hown (And.intro hkp bY)))
            by_cases hlt : k < c.p.chs.length
            · obtain ⟨x, hx⟩ : ∃ x, x = getI b k := ⟨_, rfl⟩
              obtain ⟨y, hy⟩ : ∃ y, y = getI (staysV c.p c.l) k := ⟨_, rfl⟩
              obtain ⟨m, hm⟩ : ∃ m, m = if y < x then y else x := ⟨_, rfl⟩
              have hs5 := (hkp.block _ (heap_lt H5.out.2.1.hs) (by simp; exact HOW.out.2.1.symm)).trans H5.out.2.1.hs
              rw [HSL.out.1] at hs5
              have c0 : wr.cell? ⟨s.sb, 0, none⟩ = some (.slice (some ⟨s.gb, 0, none⟩) c.p.chs.length s.cr) := (cell_of_heap hs5 0).trans rfl
              have hbl : b.length = c.p.chs.length := hmb.1.trans HSL.out.1
              have c1 : wr.cell? ⟨s.gb, k, none⟩ = some (.int .i64 x) := by rw [hx]; exact rd_at hown.rd hbl hlt
              have c2 : wr.cell? ⟨gst, ofs + k, none⟩ = some (.int .i64 y) := by
                obtain ⟨g, o, e, hb, hc⟩ := (HRS.out.1 wr bY).2 (by omega)
                injection e with e
                injection e with e1 e2 _
                subst e1 e2
                rw [hy, hc k _ (ints_get (by rw [HRS.out.2]; exact hlt))]; simp [getI]
              have c3 := (hown.some_ (by omega))
              obtain ⟨g3, e3, _, _, _, f3⟩ := c3
              injection e3 with e3
              injection e3 with e3 _ _
              subst e3
              have cf := f3 k
              have z0 := heap_lt hs5
              have z1 := World.block_lt_of_cell? _ _ c1
              have z2 := World.block_lt_of_cell? _ _ c2
              simp only at z1 z2
              have HXY := Lib.hid (And.intro hx (And.intro hy hm))
              have hm' := hm.symm
              clear hx hy hm hs5 hmb hown hkp bY f3 hbl
              go_upto_region 21 with fail
              refine wp_region_steps (σ := Unit) (by kernel_rfl) (by kernel_rfl) (fun _ jx vx _ => Po21V wr s.sb s.gb gst ofs c.p.chs.length cst s.cr k x y m jx vx) (fun _ ly wx => Po21W wr s.sb s.gb gst ofs c.p.chs.length cst s.cr k x y m ly wx) () ?_ ?_ ?_
              · exact (by unfold Po21W; rw [if_neg (by simp)])
              · simp only [AllFrom, Nat.zero_add, Nat.reduceAdd]
                refine ⟨?_, ?_, ?_, ?_, ?_, ?_, ?_, ?_, ?_, ?_, ?_, ?_, ?_, ?_, ?_, trivial⟩
                · refine step_pure fun sg ly a wr hl hd hW hF => ?_
                  have et14 := hF.old 14 (by kernel_rfl)
                  simp [Act.eval] at et14
                  exact ⟨by simpa [Po21W, upd] using hW, .pointer (some ⟨s.sb, 0, none⟩), by go_simp, rfl⟩
                · refine step_pure fun sg ly a wr hl hd hW hF => ?_
                  simp [Region.binds] at hd
                  have et123 := hF.new 0 123 (by simp [hd]) rfl
                  simp [Po21V, Act.eval] at et123
                  have nL := hF.notYet 1 14 hl (by kernel_rfl)
                  have hW' := hW
                  unfold Po21W at hW'
                  rw [if_neg (by simp [nL])] at hW'
                  subst hW'
                  exact ⟨by unfold Po21W; rw [if_neg (by simp [upd, nL])], _, by go_simp, rfl⟩
                · refine step_pure fun sg ly a wr hl hd hW hF => ?_
                  have et18 := hF.old 18 (by kernel_rfl)
                  simp [Act.eval] at et18
                  exact ⟨by simpa [Po21W, upd] using hW, .int .i64 k, by go_simp, rfl⟩
                · refine step_pure fun sg ly a wr hl hd hW hF => ?_
                  have et14 := hF.old 14 (by kernel_rfl)
                  simp [Act.eval] at et14
                  exact ⟨by simpa [Po21W, upd] using hW, .pointer (some ⟨s.sb, 0, none⟩), by go_simp, rfl⟩
                · refine step_pure fun sg ly a wr hl hd hW hF => ?_
                  simp [Region.binds] at hd
                  have et126 := hF.new 3 126 (by simp [hd]) rfl
                  simp [Po21V, Act.eval] at et126
                  have nL := hF.notYet 4 14 hl (by kernel_rfl)
                  have hW' := hW
                  unfold Po21W at hW'
                  rw [if_neg (by simp [nL])] at hW'
                  subst hW'
                  exact ⟨by unfold Po21W; rw [if_neg (by simp [upd, nL])], _, by go_simp, rfl⟩
                · refine step_pure fun sg ly a wr hl hd hW hF => ?_
                  have et18 := hF.old 18 (by kernel_rfl)
                  simp [Act.eval] at et18
                  exact ⟨by simpa [Po21W, upd] using hW, .int .i64 k, by go_simp, rfl⟩
                · refine step_pure fun sg ly a wr hl hd hW hF => ?_
                  simp [Region.binds] at hd
                  have et127 := hF.new 4 127 (by simp [hd]) rfl
                  simp [Po21V, Act.eval] at et127
                  have et128 := hF.new 5 128 (by simp [hd]) rfl
                  simp [Po21V, Act.eval] at et128
                  exact ⟨by simpa [Po21W, upd] using hW, .pointer (some ⟨s.gb, k, none⟩), by go_simp, rfl⟩
                · refine step_pure fun sg ly a wr hl hd hW hF => ?_
                  simp [Region.binds] at hd
                  have et129 := hF.new 6 129 (by simp [hd]) rfl
                  simp [Po21V, Act.eval] at et129
                  have nL := hF.notYet 7 14 hl (by kernel_rfl)
                  have hW' := hW
                  unfold Po21W at hW'
                  rw [if_neg (by simp [nL])] at hW'
                  subst hW'
                  exact ⟨by unfold Po21W; rw [if_neg (by simp [upd, nL])], _, by go_simp, rfl⟩
                · refine step_pure fun sg ly a wr hl hd hW hF => ?_
                  have et11 := hF.old 11 (by kernel_rfl)
                  simp [Act.eval] at et11
                  exact ⟨by simpa [Po21W, upd] using hW, .slice (some ⟨gst, ofs, none⟩) c.p.chs.length cst, by go_simp, rfl⟩
                · refine step_pure fun sg ly a wr hl hd hW hF => ?_
                  have et18 := hF.old 18 (by kernel_rfl)
                  simp [Act.eval] at et18
                  exact ⟨by simpa [Po21W, upd] using hW, .int .i64 k, by go_simp, rfl⟩
                · refine step_pure fun sg ly a wr hl hd hW hF => ?_
                  simp [Region.binds] at hd
                  have et131 := hF.new 8 131 (by simp [hd]) rfl
                  simp [Po21V, Act.eval] at et131
                  have et132 := hF.new 9 132 (by simp [hd]) rfl
                  simp [Po21V, Act.eval] at et132
                  exact ⟨by simpa [Po21W, upd] using hW, .pointer (some ⟨gst, ofs + k, none⟩), by go_simp, rfl⟩
                · refine step_pure fun sg ly a wr hl hd hW hF => ?_
                  simp [Region.binds] at hd
                  have et133 := hF.new 10 133 (by simp [hd]) rfl
                  simp [Po21V, Act.eval] at et133
                  have nL := hF.notYet 11 14 hl (by kernel_rfl)
                  have hW' := hW
                  unfold Po21W at hW'
                  rw [if_neg (by simp [nL])] at hW'
                  subst hW'
                  exact ⟨by unfold Po21W; rw [if_neg (by simp [upd, nL])], _, by go_simp, rfl⟩
                · refine step_pure fun sg ly a wr hl hd hW hF => ?_
                  simp [Region.binds] at hd
                  have et130 := hF.new 7 130 (by simp [hd]) rfl
                  simp [Po21V, Act.eval] at et130
                  have et134 := hF.new 11 134 (by simp [hd]) rfl
                  simp [Po21V, Act.eval] at et134
                  have eM := hm'
                  exact ⟨by simpa [Po21W, upd] using hW, .int .i64 m, by go_simp, rfl⟩
                · refine step_pure fun sg ly a wr hl hd hW hF => ?_
                  simp [Region.binds] at hd
                  have et124 := hF.new 1 124 (by simp [hd]) rfl
                  simp [Po21V, Act.eval] at et124
                  have et125 := hF.new 2 125 (by simp [hd]) rfl
                  simp [Po21V, Act.eval] at et125
                  exact ⟨by simpa [Po21W, upd] using hW, .pointer (some ⟨s.gb, k, none⟩), by go_simp, rfl⟩
                · refine step_store rfl fun sg ly a wr hl hd hW hF => ?_
                  simp [Region.binds] at hd
                  have et136 := hF.new 13 136 (by simp [hd]) rfl
                  simp [Po21V, Act.eval] at et136
                  have et135 := hF.new 12 135 (by simp [hd]) rfl
                  simp [Po21V, Act.eval] at et135
                  have hW' := hW
                  unfold Po21W at hW'
                  rw [if_neg (by simp [hl])] at hW'
                  subst hW'
                  refine ⟨(wr.setCell ⟨s.gb, k, none⟩ (.int .i64 m)).drew, (), .skip, by go_simp, .inl rfl, by unfold Po21W; rw [if_pos (by simp [upd])], fun _ _ _ h => h⟩
              intro _ a w3 hWW hF
              obtain ⟨f3, hf3, rfl⟩ := hF.lit
              have hw3 : w3 = (wr.setCell ⟨s.gb, k, none⟩ (.int .i64 m)).drew := by
                have h5 := hWW
                unfold Po21W at h5
                rwa [if_pos (by simp)] at h5
              clear hf3 hF hWW
              simp only [List.filterMap, List.foldl, List.setIfInBounds_toArray, List.set_cons_succ, List.set_cons_zero]
              have S6 : OwnS w3 3 1 (some ⟨s.gb, 0, none⟩) c.p.chs.length s.cr (ints (b.set k m)) [s.gb] := by
                rw [hw3]
                have h := HK.out.2.1.set_ k (.int .i64 m)
                have e : (ints b).set k (.int .i64 m) = ints (b.set k m) := by simp [ints, List.map_set]
                rw [e] at h
                exact h
              have K6 : Keep [s.gb] X5 w3 := by rw [hw3]; exact (HK.out.2.2.1.setCell (.inl (by simp)) _).drew
              have HK6 := Lib.hid (And.intro S6 K6)
              clear S6 K6 hw3 hm' c0 c1 c2 cf z0 z1 z2
              go_wp2_with fail
              go_roundg (gk - 1)
              case measure => omega
              case rel => exact ⟨k + 1, b.set k m, by omega, by go_num, HK.out.1.step (by rw [HSL.out.1]; exact hlt) (by rw [HXY.out.2.2, HXY.out.1, HXY.out.2.1]), HK6.out.1, HK6.out.2⟩
            · obtain rfl : k = c.p.chs.length := by omega
              clear hmb hown hkp bY
              go_wp2_with fail
              go_meet
              exact ⟨b, HK.out.1, HK.out.2.1, HK.out.2.2.1⟩
        case rest =>
          obtain ⟨b, hmb, hown, hkp⟩ := hcut
          obtain ⟨wz, hwz, hkp⟩ : ∃ wz, wz = _ ∧ Keep [s.gb] X5 wz := ⟨_, rfl, hkp⟩
          rw [← hwz] at hown ⊢
          clear hwz
          have hbl : b.length = c.p.chs.length := hmb.1.trans HSL.out.1
          have h5 := H5.out.2.1
          have bY := HY.out.1.trans (hkp.below HY.out.1.size (by simp; exact HOW.out.2.2.2))
          have SE : StE c ⟨s.sb, s.gb, s.cr, s.ub, b⟩ wz := by
            refine ⟨?_, ?_, (h5.SB.bu.keep hkp (fun b' o e => ?_)).mono hkp.size, ⟨by simp only [st0, hbl]; exact hown.ge, hown.cap, fun e => by cases e⟩, h5.SB.c2⟩
            · have := (hkp.block _ (heap_lt h5.hs) (by simp; exact HOW.out.2.1.symm)).trans h5.hs
              rw [HSL.out.1] at this
              simp only [hbl]; exact this
            · simp only [st0, hbl]; exact RdB.of hown.rd (Nat.le_refl _)
            · injection e with e
              injection e with e _ _
              simp only [List.mem_singleton]
              rw [← e]
              exact HOW.out.2.2.1.symm
          have bw := HC3.out.2.trans (bY.mono HC3.out.2.size)
          have hget : ∀ i : Nat, i < c.p.chs.length → getI b i = min (getI s.b i) (getI (staysV c.p c.l) i) := fun i hi => by
            have := hmb.2 i (by rw [HSL.out.1]; exact hi)
            rwa [if_pos hi] at this
          have hbn : BrN c.p.chs.length b 0 := ⟨hbl, fun y hy => by
            obtain ⟨i, hi, rfl⟩ := mem_getI hy
            rw [hbl] at hi
            rw [hget i hi]
            have h1 := HSL.out.2 _ (getI_mem (b := s.b) (i := i) (by rw [HSL.out.1]; exact hi))
            have h2 := stays_mq HMd.out.1 HMd.out.2 HS0.out hi
            have h3 := (foldS_mq HMd.out.1 HMd.out.2 hi).flo
            rw [← h2.2.1]
            rcases h2.2.2.2 with e | ⟨_, e⟩
            · rw [e]; simp only [NL]; omega
            · omega⟩
          have hlim : ∀ i : Nat, i < c.p.chs.length → limOk (foldS c.p c.l i) (getI b i) := fun i hi => by
            right
            rw [hget i hi, (stays_mq HMd.out.1 HMd.out.2 HS0.out hi).2.1]
            omega
          have HF := Lib.hid (And.intro (HC3.out.1.below bY) (And.intro SE (And.intro bw (And.intro hbn (And.intro hlim (HRS.out.1 wz bY))))))
          clear SE bw hget hbn hlim hmb hown hkp bY h5 hbl
          apply_assumption
          refine open_a (s := ⟨s.sb, s.gb, s.cr, s.ub, b⟩) HF.out.1 HF.out.2.1 HF.out.2.2.1 HMd.out.1 HMd.out.2 HS0.out HF.out.2.2.2.1 HF.out.2.2.2.2.1 HF.out.2.2.2.2.2 hmo ?_
          intro _ _ _ h
          exact h
  · --9
    rw [h9]
    clear h9
    have KW := Lib.hid awakeP_any
    go_wp2_with (go_at_call 15; refine (KW.out _).mono ?_; rintro e w8 ⟨rfl, b8⟩; have HW := Lib.hid b8; clear b8)
    go_ret
    exact ⟨rfl, HC3.out.2.trans (HW.out.mono HC3.out.2.size)⟩
  · --B
    rw [h4]
    have HS4' := Lib.hid (And.intro h4 ht)
    clear h4 ht
    have kdr : Calls Try.prog 16 #[.slice A2 l2.length c2] Y3 (DrawnPost Y3.heap.size Y3) := drawn_at Y3.heap.size A2 c2 l2 w Y3 HR2.out.1 HR2.out.2.1 HR2.out.2.2 HC3.out.2 HC3.out.2.size (Nat.le_refl _)
    have HDR := Lib.hid kdr
    clear kdr
    go_upto_region 7 with (go_at_call 16; refine HDR.out.mono ?_; rintro e w3 ⟨ib, dl, rfl, nx1, hib, hdl, b1⟩; have S3 := Lib.hid ((Own.start Y3).new b1 (i := .nx ib dl) nx1 (by simp [It.fp]; omega)); have HB3 := Lib.hid b1; clear nx1 hib hdl b1)
    clear HDR
    have E3 := HC3.out.1.below HB3.out
    obtain ⟨q0, q1, q2, q3, q4, q5, zp, zl⟩ := E3.cells
    have hnb := HMd.out.1.nb
    have hnc := HMd.out.1.nc
    have mk := run_make_bools (P := Try.prog) 40 4 iB Try.underlying40 hB0 hB1 hB2 hB3 c.p.bts.length (by omega) w3
    clear E3
    go_upto_region 8 with fail
    obtain ⟨ub, hub⟩ : ∃ b, b = w3.heap.size := ⟨_, rfl⟩
    obtain ⟨sb, hsb⟩ : ∃ b, b = w3.heap.size + 1 := ⟨_, rfl⟩
    obtain ⟨X4, hX4⟩ : ∃ X, X = (w3.alloc (.cells (falses c.p.bts.length) 4)).alloc (.cells #[.slice none 0 0, .slice (some ⟨ub, 0, none⟩) c.p.bts.length c.p.bts.length] 42) := ⟨_, rfl⟩
    rw [← hsb, ← hub, ← hX4]
    have S4 : Own Y3.heap.size Y3 [.nx ib dl, .blk sb (.cells #[.slice (none) (0) (0), .slice (some ⟨ub, 0, none⟩) c.p.bts.length c.p.bts.length] 42 (0, 0)), .own 3 1 (none) (0) (0) (ints ([])) [], .own 4 1 (some ⟨ub, 0, none⟩) c.p.bts.length c.p.bts.length (bools (noB c.p)) [ub]] X4 := by
      have h1 := S3.out.alloc (.cells (falses c.p.bts.length) 4)
      have h2 := (S3.out.below ((Below.refl _ _).alloc (Nat.le_refl _) (.cells (falses c.p.bts.length) 4))).alloc (.cells #[.slice none 0 0, .slice (some ⟨ub, 0, none⟩) c.p.bts.length c.p.bts.length] 42)
      rw [World.size_alloc, ← hsb, ← hX4] at h2
      have h3 := h2.new (i := .own 3 1 none 0 0 (ints []) []) (Below.refl _ _) (OwnS.nil _ _ _) (by simp [It.fp])
      refine h3.add (i := .own 4 1 (some ⟨ub, 0, none⟩) c.p.bts.length c.p.bts.length (bools (noB c.p)) [ub]) ?_ ?_ ?_
      · refine ⟨by simp [bools, noB], .inr ⟨ub, falses c.p.bts.length, rfl, rfl, ?_, Nat.le_refl _, by omega, by simp [falses], fun j u hu => by unfold falses; rw [List.getElem?_toArray]; simpa [bools, noB] using hu⟩⟩
        rw [hX4, hub]; exact heap_alloc' (heap_alloc_new _ _) _
      · have := S3.out.lo; simp [It.fp]; omega
      · have h0 := (S3.out.nxt 0 rfl).lt
        simp [It.fp]; omega
    have HS4 := Lib.hid S4
    have HB34 : Hid (Below w3.heap.size w3 X4) := Lib.hid (by rw [hX4]; exact ((Below.refl _ _).alloc (Nat.le_refl _) _).alloc (by simp) _)
    clear q0 q1 q2 q3 q4 q5 zp zl mk hX4 hsb hub S4
    have E4 := HC3.out.1.below (HB3.out.trans (HB34.out.mono HB3.out.size))
    obtain ⟨q0, q1, q2, q3, q4, q5, zp, zl⟩ := E4.cells
    clear E4
    go_wp2_with fail
    clear q0 q1 q2 q3 q4 q5 zp zl
    go_loopg [63] c.p.chs.length (fun g i wx => ∃ (k : Nat) (b : List Int) (Ar : Option Addr) (cr : Nat) (q : List Nat), g + k = c.p.chs.length ∧ i = .int .i64 k ∧ b.length = k ∧ BrOk 200 b ∧ Own Y3.heap.size Y3 [.nx ib dl, .blk sb (.cells #[.slice (Ar) (k) (cr), .slice (some ⟨ub, 0, none⟩) c.p.bts.length c.p.bts.length] 42 (0, 0)), .own 3 1 (Ar) (k) (cr) (ints (b)) q, .own 4 1 (some ⟨ub, 0, none⟩) c.p.bts.length c.p.bts.length (bools (noB c.p)) [ub]] wx)
    case atStart => exact ⟨0, [], none, 0, [], rfl, rfl, rfl, (fun x hx => by cases hx), HS4.out⟩
    case round =>
      obtain ⟨k, b, Ar, cr, q, hk, rfl, hbl, hbo, hO⟩ := hrel
      have HS := Lib.hid (And.intro hO (And.intro hbo hbl))
      by_cases hlt : k < c.p.chs.length
      · obtain ⟨A0', c0', l0', k0, hdr, hby, hln, hne, hap⟩ := hO.draws 0 rfl
        obtain ⟨x0, hx0⟩ : ∃ x, x = draw l0' k0 200 := ⟨_, rfl⟩
        have r0 := draw_range (l := l0') k0 (n := 200) (by decide)
        rw [← hx0] at r0
        obtain ⟨C, hC⟩ : ∃ C : ApC, C = ⟨ib, dl, k0, A0', c0', l0', sb, 3, 1, k, Ar, cr, ints b, q, [.int .i64 x0], #[.slice Ar k cr, .slice (some ⟨ub, 0, none⟩) c.p.bts.length c.p.bts.length], fun A c' => #[.slice A (k + 1) c', .slice (some ⟨ub, 0, none⟩) c.p.bts.length c.p.bts.length], 42⟩ := ⟨_, rfl⟩
        have O : ApOk C wr := by
          subst hC
          exact hO.apOk 0 1 2 rfl rfl rfl (by decide) (by decide) (by decide) hdr hby hln hne hap
        have HX := Lib.hid (And.intro hx0 (And.intro O (And.intro hC hap)))
        clear hx0 O hdr hby hln hne hap hO hbo hbl
        subst hC
        go_upto_region 10 with fail
        refine wp_region_steps (σ := ApS) (by kernel_rfl) (by kernel_rfl) (fun sg jx vx _ => Po10V ib dl sb x0 k Ar cr sg jx vx) (fun sg ly wx => ApW ⟨ib, dl, k0, A0', c0', l0', sb, 3, 1, k, Ar, cr, ints b, q, [.int .i64 x0], #[.slice Ar k cr, .slice (some ⟨ub, 0, none⟩) c.p.bts.length c.p.bts.length], fun A c' => #[.slice A (k + 1) c', .slice (some ⟨ub, 0, none⟩) c.p.bts.length c.p.bts.length], 42⟩ 4 5 7 Po10Cnt wr sg ly wx) ⟨0, none, 0, 0⟩ ?_ ?_ ?_
        · exact HX.out.2.1.start (by simp [Po10Cnt])
        · simp only [AllFrom, Nat.zero_add, Nat.reduceAdd]
          refine ⟨?_, ?_, ?_, ?_, ?_, ?_, ?_, ?_, trivial⟩
          · refine step_pure fun sg ly a wx hl hd hW hF => ?_
            have et14 := hF.old 14 (by kernel_rfl)
            simp [Act.eval] at et14
            exact ⟨hW.other HX.out.2.1 _ (by decide) (by simp [Po10Cnt, upd]), .pointer (some ⟨sb, 0, none⟩), by go_simp, rfl⟩
          · refine step_pure fun sg ly a wx hl hd hW hF => ?_
            simp [Region.binds] at hd
            have et65 := hF.new 0 65 (by simp [hd]) rfl
            simp [Po10V, Act.eval] at et65
            have nS := hF.notYet 1 7 hl (by kernel_rfl)
            have hh := hW.hob
            rw [if_neg (by simp [nS])] at hh
            have cL := (cell_of_heap hh 0).trans rfl
            have zL := heap_lt hh
            exact ⟨hW.other HX.out.2.1 _ (by decide) (by simp [Po10Cnt, upd]), _, by go_simp, rfl⟩
          · refine step_pure fun sg ly a wx hl hd hW hF => ?_
            have et13 := hF.old 13 (by kernel_rfl)
            simp [Act.eval] at et13
            exact ⟨hW.other HX.out.2.1 _ (by decide) (by simp [Po10Cnt, upd]), .func (.func 70) #[] #[.pointer (some ⟨ib, 0, none⟩), .pointer (some ⟨dl, 0, none⟩)], by go_simp, rfl⟩
          · refine step_call fun sg ly a wx hl hd hW hF => ?_
            simp [Region.binds] at hd
            have et67 := hF.new 2 67 (by simp [hd]) rfl
            simp [Po10V, Act.eval] at et67
            have hq := hW.next HX.out.2.1 (200) (by decide)
            rw [show Po10Cnt ly = 0 from by simp [Po10Cnt, hl]] at hq
            refine ⟨70, #[.int .i64 (200), .pointer (some ⟨ib, 0, none⟩), .pointer (some ⟨dl, 0, none⟩)], by go_simp, ?_⟩
            refine hq.mono ?_
            rintro e w2 ⟨rfl, d2, k2, s2⟩
            exact ⟨.int .i64 x0, sg, by rw [HX.out.1] <;> rfl, hW.call HX.out.2.1 _ (by decide) (by rw [show Po10Cnt (upd ly 3) = 1 from by simp [Po10Cnt, upd, hl]]; exact d2) k2, rfl, fun _ _ _ h => h⟩
          · refine step_run fun sg ly a wx hl hd hW hF => ?_
            simp [Region.binds] at hd
            have et68 := hF.new 3 68 (by simp [hd]) rfl
            simp [Po10V, Act.eval] at et68
            refine ⟨_, wx.alloc (.cells #[.int .i64 x0] 3), { sg with bs := wx.heap.size }, by go_simp, hW.build HX.out.2.1 (by decide) (by simp [Po10Cnt, upd]), rfl, ?_⟩
            intro i u hi h
            have i4 : i ≠ 4 := by rintro rfl; rw [hl] at hi; cases hi
            unfold Po10V at h ⊢
            split at h <;> first | exact h | exact absurd rfl i4
          · intro sg ly a wx hl hd hW hF
            simp [Region.binds] at hd
            have et66 := hF.new 1 66 (by simp [hd]) rfl
            simp [Po10V, Act.eval] at et66
            have et69 := hF.new 4 69 (by simp [hd]) rfl
            simp [Po10V, Act.eval] at et69
            have nS := hF.notYet 5 7 hl (by kernel_rfl)
            have yB : ly 4 = true := by simp [hd]
            refine hW.at_append HX.out.2.1 (.tmp 66) (.tmp 69) 33 rfl iI _ 8 Try.underlying33 hI0 hI1 hI2 (show (0 : Nat) < 1 from by decide) hI3 rfl (by simpa [Act.eval] using et66) (by simpa [Act.eval] using et69) rfl (by simp [Value.oneCell']) (by simp only; omega) (by omega) (by decide) (by simp [Po10Cnt, upd]) yB hl nS ?_
            intro g c' w' h'
            refine ⟨{ sg with A := some ⟨g, 0, none⟩, c := c', g := g }, _, rfl, h', fun _ => rfl, ?_⟩
            intro i u hi h
            have i5 : i ≠ 5 := by rintro rfl; rw [hl] at hi; cases hi
            unfold Po10V at h ⊢
            split at h <;> first | exact h | exact absurd rfl i5
          · refine step_pure fun sg ly a wx hl hd hW hF => ?_
            have et14 := hF.old 14 (by kernel_rfl)
            simp [Act.eval] at et14
            exact ⟨hW.other HX.out.2.1 _ (by decide) (by simp [Po10Cnt, upd]), .pointer (some ⟨sb, 0, none⟩), by go_simp, rfl⟩
          · refine step_store rfl fun sg ly a wx hl hd hW hF => ?_
            simp [Region.binds] at hd
            have et71 := hF.new 6 71 (by simp [hd]) rfl
            simp [Po10V, Act.eval] at et71
            have et70 := hF.new 5 70 (by simp [hd]) rfl
            simp [Po10V, Act.eval] at et70
            have yA : ly 5 = true := by simp [hd]
            have hh := hW.hob
            rw [if_neg (by simp [hl])] at hh
            have cL := (cell_of_heap hh 0).trans rfl
            have fL := frozen_of_heap hh 0
            have zL := heap_lt hh
            exact ⟨_, sg, .skip, by go_simp, .inl rfl, hW.store HX.out.2.1 (by decide) (by simp [Po10Cnt, upd]) 0 (fun _ _ => rfl) yA hl, fun _ _ _ h => h⟩
        intro sg af w8 hWW hF
        obtain ⟨ff, hf, rfl⟩ := hF.lit
        have S8 := HS.out.1.apDone 0 1 2 rfl rfl rfl (by decide) (by decide) (by decide) HX.out.2.2.2 HX.out.2.1 hWW rfl rfl
        have S8' : Own Y3.heap.size Y3 [.nx ib dl, .blk sb (.cells #[.slice (sg.A) (k + 1) (sg.c), .slice (some ⟨ub, 0, none⟩) c.p.bts.length c.p.bts.length] 42 (0, 0)), .own 3 1 (sg.A) (k + 1) (sg.c) (ints (b ++ [x0])) [sg.g], .own 4 1 (some ⟨ub, 0, none⟩) c.p.bts.length c.p.bts.length (bools (noB c.p)) [ub]] w8 := by
          have h := S8
          simp only [ints_snoc] at h
          exact h
        have HS8 := Lib.hid S8'
        clear hf hF hWW S8 S8'
        simp only [List.filterMap, List.foldl, List.setIfInBounds_toArray, List.set_cons_succ, List.set_cons_zero]
        go_wp2_with fail
        go_roundg (gk - 1)
        case measure => omega
        case rel => exact ⟨k + 1, b ++ [x0], _, _, _, by omega, by go_num, by rw [List.length_append, HS.out.2.2]; rfl, HS.out.2.1.snoc r0, HS8.out⟩
      · obtain rfl : k = c.p.chs.length := by omega
        clear hO hbo hbl
        obtain ⟨gb, rfl, _⟩ := (HS.out.1.owns 2 rfl).some_ (by omega)
        obtain ⟨s, hs⟩ : ∃ s : StC, s = ⟨sb, gb, cr, ub, b⟩ := ⟨_, rfl⟩
        have SE : StE c s wr := by
          subst hs
          exact StE.of (by simp only [HS.out.2.2]; exact HS.out.1.heap 1 rfl) (by simp only [HS.out.2.2]; exact HS.out.1.owns 2 rfl) (HS.out.1.owns 3 rfl)
        have EE : PoE c wr := HC3.out.1.below HS.out.1.bel
        have bw : Below w.heap.size w wr := HC3.out.2.trans (HS.out.1.bel.mono HC3.out.2.size)
        obtain ⟨e1, e2, e3, e4, e5⟩ : sb = s.sb ∧ gb = s.gb ∧ cr = s.cr ∧ ub = s.ub ∧ b = s.b := by subst hs; exact ⟨rfl, rfl, rfl, rfl, rfl⟩
        have hsl : s.b.length = c.p.chs.length ∧ BrOk 200 s.b := by rw [← e5]; exact ⟨HS.out.2.2, HS.out.2.1⟩
        have HSL := Lib.hid hsl
        have how : OwnS wr 3 1 (some ⟨s.gb, 0, none⟩) c.p.chs.length s.cr (ints s.b) [s.gb] ∧ s.gb ≠ s.sb ∧ s.gb ≠ s.ub ∧ Y3.heap.size ≤ s.gb := by
          subst hs
          have h2 : q = [gb] := by
            obtain ⟨g, e, e2, _⟩ := (HS.out.1.owns 2 rfl).some_ (by omega)
            injection e with e
            injection e with e _ _
            rw [e2, e]
          subst h2
          exact ⟨HS.out.1.owns 2 rfl, HS.out.1.ne 2 1 rfl rfl (by decide) (by simp [It.fp]) (by simp [It.fp]), HS.out.1.ne 2 3 rfl rfl (by decide) (by simp [It.fp]) (by simp [It.fp]), HS.out.1.ge 2 rfl (by simp [It.fp])⟩
        have HOW := Lib.hid how
        have HBW := Lib.hid HS.out.1.bel
        clear how
        have HE := Lib.hid (And.intro EE (And.intro SE bw))
        clear SE EE bw hs hsl
        clear HS
        subst e1 e2 e3 e4 e5
        have CC0 := HE.out.1.cells
        have SC0 := HE.out.2.1.cells
        obtain ⟨q0, q1, q2, q3, q4, q5, zp, zl⟩ := CC0
        obtain ⟨r0, r1, zs⟩ := SC0
        rw [HSL.out.1] at r0
        have kwn := Worn_any wr.heap.size c.Ac c.cc c.Ab c.cb c.p c.Al c.cl c.As c.cs c.l wr HE.out.1.PB HE.out.1.LB (Nat.le_refl _)
        have KWN := Lib.hid kwn
        clear kwn
        go_upto_region 13 with (go_at_call 17; refine KWN.out.mono ?_; rintro e w5 ⟨rfl, b5⟩; have HB5 := Lib.hid b5; clear b5)
        clear KWN q0 q1 q2 q3 q4 q5 zp zl r0 r1 zs
        obtain ⟨ab, hab⟩ : ∃ b, b = w5.heap.size := ⟨_, rfl⟩
        obtain ⟨X5, hX5⟩ : ∃ X, X = w5.alloc (.cells #[.int .i64 (wornA c.p c.l)] 3) := ⟨_, rfl⟩
        rw [← hX5, ← hab]
        have gab : X5.heap[ab]? = some (.cells #[.int .i64 (wornA c.p c.l)] 3 (0, 0)) := by rw [hX5, hab]; exact heap_alloc_new _ _
        have bX5 : Below wr.heap.size wr X5 := by rw [hX5]; exact HB5.out.alloc HB5.out.size _
        have H5 := Lib.hid (And.intro (HE.out.1.below bX5) (And.intro (HE.out.2.1.below bX5) (And.intro (HE.out.2.2.trans (bX5.mono HE.out.2.2.size)) (And.intro gab bX5))))
        have hab0 := (cell_of_heap gab 0).trans rfl
        have zab := heap_lt gab
        clear gab bX5 hX5 hab
        obtain ⟨hwe, r, a, hwv, hwa, ha1, ha2, ha3, ha4⟩ := worn_some HMd.out.1 HMd.out.2 HS4'.out.1 HS4'.out.2
        rw [hwv, hwe]
        rw [hwa] at hab0
        have HWN := Lib.hid (And.intro hwa (And.intro ha1 (And.intro ha2 (And.intro ha3 ha4))))
        have hac : (a : Int) < (c.p.chs.length : Int) := by omega
        obtain ⟨q0, q1, q2, q3, q4, q5, zp, zl⟩ := H5.out.1.cells
        clear hwe hwv hwa ha1 ha2 ha3 ha4 q1 q2 q3 q4 q5
        go_upto_if 106 with fail
        go_cut [8, 18] from 107 to 139 (fun _ _ wx => X5 = wx)
        case first =>
          go_wp2_with fail
          go_meet
          rfl
        case rest =>
          obtain rfl := hcut
          have hbn : BrN c.p.chs.length s.b 0 := ⟨HSL.out.1, fun y hy => by have := HSL.out.2 y hy; omega⟩
          have hg := H5.out.2.2.2.1
          rw [HWN.out.1] at hg
          have HF := Lib.hid (And.intro hbn hg)
          clear hbn hg
          apply_assumption
          refine open_b H5.out.1 H5.out.2.1 H5.out.2.2.1 HMd.out.1 HMd.out.2 HS4'.out.2 HF.out.1 HF.out.2 ⟨HWN.out.2.1, HWN.out.2.2.1⟩ HWN.out.2.2.2.1 HWN.out.2.2.2.2 ?_
          intro _ _ _ h
          exact h
end Go.Proofs.Ythmldeningpjbaa
