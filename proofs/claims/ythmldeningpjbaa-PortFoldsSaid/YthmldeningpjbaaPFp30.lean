/- PortFolds: the walk (printed by wip/tools/ptfolds.py) -/
import Derived.Test.YthmldeningpjbaaPFp29
set_option linter.unusedVariables false
namespace Go.Proofs.Ythmldeningpjbaa
open Go Go.RowKit Go.Lib Sp Pt
set_option linter.unusedVariables false
set_option linter.unusedSimpArgs false

def Pf7Cnt (l : Nat → Bool) : Nat := (if l 3 then 1 else 0)
set_option linter.unusedVariables false
def Pf7V (ib dl sb : Nat) (x0 : Int) (k : Nat) (A : Option Addr) (c : Nat) (s : ApS) : Nat → Value → Prop
  | 0, v => v = .pointer (some ⟨sb, 0, none⟩)
  | 1, v => v = .slice A k c
  | 2, v => v = .func (.func 70) #[] #[.pointer (some ⟨ib, 0, none⟩), .pointer (some ⟨dl, 0, none⟩)]
  | 3, v => v = .int .i64 x0
  | 4, v => v = .slice (some ⟨s.bs, 0, none⟩) 1 1
  | 5, v => v = .slice s.A (k + 1) s.c
  | 6, v => v = .pointer (some ⟨sb, 0, none⟩)
  | _, _ => True

set_option maxRecDepth 100000 in
set_option maxHeartbeats 4000000 in
theorem folds_any (A0 : Option Addr) (c0 : Nat) (l0 : List Int) (A1 : Option Addr) (c1 : Nat) (l1 : List Int) (A2 : Option Addr) (c2 : Nat) (l2 : List Int) (w : World)
    (hr0 : Rd w 1 A0 l0.length (byts l0)) (hl0 : Bytes l0) (hm0 : l0.length ≤ 9223372036854775800) (hr1 : Rd w 1 A1 l1.length (byts l1)) (hl1 : Bytes l1) (hm1 : l1.length ≤ 9223372036854775800) (hr2 : Rd w 1 A2 l2.length (byts l2)) (hl2 : Bytes l2) (hm2 : l2.length ≤ 9223372036854775800) :
    Calls Try.prog 5 #[.slice A0 l0.length c0, .slice A1 l1.length c1, .slice A2 l2.length c2] w fun e w' => e = .returned (.bool true) ∧ Below w.heap.size w w' := by
  obtain ⟨iB, hB0, hB1, hB2, hB3⟩ := info_parts info_boolP
  obtain ⟨iI, hI0, hI1, hI2, hI3⟩ := info_parts info_intP
  have HR0 := Lib.hid (And.intro hr0 (And.intro hl0 hm0))
  have HR1 := Lib.hid (And.intro hr1 (And.intro hl1 hm1))
  have HR2 := Lib.hid (And.intro hr2 (And.intro hl2 hm2))
  clear hr0 hl0 hm0 hr1 hl1 hm1 hr2 hl2 hm2
  go_enter Try.func5, Try.ntmps5
  obtain ⟨w1, hw1⟩ : ∃ x : World, x = x := ⟨w, rfl⟩
  clear hw1 w1
  go_upto_region 2 with (go_at_call 12; refine (Made9_any A0 c0 l0 w HR0.out.1 HR0.out.2.1 (by have := HR0.out.2.2; omega)).mono ?_; rintro e w1 ⟨Ac, cc, Ab, cb, p, rfl, hp, PB, b1⟩; have H1 := Lib.hid (And.intro hp (And.intro PB b1)); clear hp PB b1)
  obtain ⟨pb, hpb⟩ : ∃ b, b = w1.heap.size := ⟨_, rfl⟩
  obtain ⟨X1, hX1⟩ : ∃ X, X = w1.alloc (.cells (prtV Ac cc Ab cb p) 26) := ⟨_, rfl⟩
  rw [← hX1, ← hpb]
  have bX1 : Below w1.heap.size w1 X1 := by rw [hX1]; exact (Below.refl _ _).alloc (Nat.le_refl _) _
  have kpl : Calls Try.prog 13 #[.agg (prtV Ac cc Ab cb p), .slice A1 l1.length c1] X1 (PlanPost X1 p) := Planned_any w1.heap.size Ac cc Ab cb p A1 c1 l1 X1 (H1.out.2.1.below bX1) H1.out.1 bX1.size (HR1.out.1.below (H1.out.2.2.trans (bX1.mono H1.out.2.2.size))) HR1.out.2.1 (by have := HR1.out.2.2; omega)
  have gp : X1.heap[pb]? = some (.cells (prtV Ac cc Ab cb p) 26 (0, 0)) := by rw [hX1, hpb]; exact heap_alloc_new _ _
  have q0 : X1.cell? ⟨pb, 0, none⟩ = some (.slice Ac p.chs.length cc) := (cell_of_heap gp 0).trans rfl
  have q1 : X1.cell? ⟨pb, 1, none⟩ = some (.slice Ab p.bts.length cb) := (cell_of_heap gp 1).trans rfl
  have q2 : X1.cell? ⟨pb, 2, none⟩ = some (.int .i64 p.tugs) := (cell_of_heap gp 2).trans rfl
  have zp := heap_lt gp
  have HP1 := Lib.hid (And.intro kpl (And.intro hX1 (And.intro hpb bX1)))
  clear kpl gp hX1 hpb bX1
  go_upto_region 3 with (go_at_call 13; refine HP1.out.1.mono ?_; rintro e w2 ⟨Al, cl, As, cs, l, rfl, hl, LB, b2⟩; have H2 := Lib.hid (And.intro hl (And.intro LB b2)); clear hl LB b2)
  obtain ⟨c, hc⟩ : ∃ c : PoC, c = ⟨w1.heap.size, w2.heap.size, Ac, cc, Ab, cb, p, Al, cl, As, cs, l⟩ := ⟨_, rfl⟩
  obtain ⟨X2, hX2⟩ : ∃ X, X = w2.alloc (.cells (plnV Al cl As cs l) 31) := ⟨_, rfl⟩
  have E2 : PoE c X2 := by
    rw [hc, hX2]
    refine PoE.made H1.out.2.1 H2.out.2.1 ?_
    have := H2.out.2.2
    rw [HP1.out.2.1, World.size_alloc] at this
    exact this
  have b2 : Below w.heap.size w X2 := by
    rw [hX2]
    have h := (H1.out.2.2.trans (HP1.out.2.2.2.mono H1.out.2.2.size)).trans (H2.out.2.2.mono (by have := H1.out.2.2.size; have := HP1.out.2.2.2.size; omega))
    exact h.alloc h.size _
  have HMd : Hid (MdP c.p ∧ MdL c.p c.l) := Lib.hid (by rw [hc]; exact ⟨H1.out.1, H2.out.1⟩)
  have HC := Lib.hid (And.intro E2 b2)
  have ep : pb = c.pb := by rw [HP1.out.2.2.1, hc]
  have el : w2.heap.size = c.lb := by rw [hc]
  have e0 : Ac = c.Ac ∧ cc = c.cc ∧ Ab = c.Ab ∧ cb = c.cb ∧ p = c.p ∧ Al = c.Al ∧ cl = c.cl ∧ As = c.As ∧ cs = c.cs ∧ l = c.l := by rw [hc]; exact ⟨rfl, rfl, rfl, rfl, rfl, rfl, rfl, rfl, rfl, rfl⟩
  obtain ⟨e1, e2, e3, e4, e5, e6, e7, e8, e9, e10⟩ := e0
  rw [← hX2, el, ep]
  clear q0 q1 q2 zp E2 b2 hX2 hc el
  clear HP1 H1 H2
  subst e1 e2 e3 e4 e5 e6 e7 e8 e9 e10 ep
  have kdr : Calls Try.prog 16 #[.slice A2 l2.length c2] X2 (DrawnPost X2.heap.size X2) := drawn_at X2.heap.size A2 c2 l2 w X2 HR2.out.1 HR2.out.2.1 HR2.out.2.2 HC.out.2 HC.out.2.size (Nat.le_refl _)
  have HDR := Lib.hid kdr
  clear kdr
  go_upto_region 4 with (go_at_call 16; refine HDR.out.mono ?_; rintro e w3 ⟨ib, dl, rfl, nx1, hib, hdl, b1⟩; have S3 := Lib.hid ((Own.start X2).new b1 (i := .nx ib dl) nx1 (by simp [It.fp]; omega)); have HB3 := Lib.hid b1; clear nx1 hib hdl b1)
  clear HDR
  have E3 := HC.out.1.below HB3.out
  obtain ⟨q0, q1, q2, q3, q4, q5, zp, zl⟩ := E3.cells
  have hnb := HMd.out.1.nb
  have hnc := HMd.out.1.nc
  have mk := run_make_bools (P := Try.prog) 40 4 iB Try.underlying40 hB0 hB1 hB2 hB3 c.p.bts.length (by omega) w3
  clear E3
  go_upto_region 5 with fail
  obtain ⟨ub, hub⟩ : ∃ b, b = w3.heap.size := ⟨_, rfl⟩
  obtain ⟨sb, hsb⟩ : ∃ b, b = w3.heap.size + 1 := ⟨_, rfl⟩
  obtain ⟨X4, hX4⟩ : ∃ X, X = (w3.alloc (.cells (falses c.p.bts.length) 4)).alloc (.cells #[.slice none 0 0, .slice (some ⟨ub, 0, none⟩) c.p.bts.length c.p.bts.length] 42) := ⟨_, rfl⟩
  rw [← hsb, ← hub, ← hX4]
  have S4 : Own X2.heap.size X2 [.nx ib dl, .blk sb (.cells #[.slice (none) (0) (0), .slice (some ⟨ub, 0, none⟩) c.p.bts.length c.p.bts.length] 42 (0, 0)), .own 3 1 (none) (0) (0) (ints ([])) [], .own 4 1 (some ⟨ub, 0, none⟩) c.p.bts.length c.p.bts.length (bools (noB c.p)) [ub]] X4 := by
    have h1 := S3.out.alloc (.cells (falses c.p.bts.length) 4)
    have h2 := (S3.out.below ((Below.refl _ _).alloc (Nat.le_refl _) (.cells (falses c.p.bts.length) 4))).alloc (.cells #[.slice none 0 0, .slice (some ⟨ub, 0, none⟩) c.p.bts.length c.p.bts.length] 42)
    rw [World.size_alloc, ← hsb, ← hX4] at h2
    have h3 := h2.new (i := .own 3 1 none 0 0 (ints []) []) (Below.refl _ _) (OwnS.nil _ _ _) (by simp [It.fp])
    refine h3.add (i := .own 4 1 (some ⟨ub, 0, none⟩) c.p.bts.length c.p.bts.length (bools (noB c.p)) [ub]) ?_ ?_ ?_
    · refine ⟨by simp [bools, noB], .inr ⟨ub, falses c.p.bts.length, rfl, rfl, ?_, Nat.le_refl _, by omega, by simp [falses], fun j u hu => by unfold falses; rw [List.getElem?_toArray]; simpa [bools, noB] using hu⟩⟩
      rw [hX4, hub]; exact heap_alloc' (heap_alloc_new _ _) _
    · have := S3.out.lo; simp [It.fp]; omega
    · have h0 := (S3.out.nxt 0 rfl).lt
      simp [It.fp]; omega
  have HS4 := Lib.hid S4
  have HB34 : Hid (Below w3.heap.size w3 X4) := Lib.hid (by rw [hX4]; exact ((Below.refl _ _).alloc (Nat.le_refl _) _).alloc (by simp) _)
  clear q0 q1 q2 q3 q4 q5 zp zl mk hX4 hsb hub S4
  have E4 := HC.out.1.below (HB3.out.trans (HB34.out.mono HB3.out.size))
  obtain ⟨q0, q1, q2, q3, q4, q5, zp, zl⟩ := E4.cells
  clear E4
  go_wp2_with fail
  clear q0 q1 q2 q3 q4 q5 zp zl
  go_loopg [38] c.p.chs.length (fun g i wx => ∃ (k : Nat) (b : List Int) (Ar : Option Addr) (cr : Nat) (q : List Nat), g + k = c.p.chs.length ∧ i = .int .i64 k ∧ b.length = k ∧ BrOk 200 b ∧ Own X2.heap.size X2 [.nx ib dl, .blk sb (.cells #[.slice (Ar) (k) (cr), .slice (some ⟨ub, 0, none⟩) c.p.bts.length c.p.bts.length] 42 (0, 0)), .own 3 1 (Ar) (k) (cr) (ints (b)) q, .own 4 1 (some ⟨ub, 0, none⟩) c.p.bts.length c.p.bts.length (bools (noB c.p)) [ub]] wx)
  case atStart => exact ⟨0, [], none, 0, [], rfl, rfl, rfl, (fun x hx => by cases hx), HS4.out⟩
  case round =>
    obtain ⟨k, b, Ar, cr, q, hk, rfl, hbl, hbo, hO⟩ := hrel
    have HS := Lib.hid (And.intro hO (And.intro hbo hbl))
    by_cases hlt : k < c.p.chs.length
    · obtain ⟨A0', c0', l0', k0, hdr, hby, hln, hne, hap⟩ := hO.draws 0 rfl
      obtain ⟨x0, hx0⟩ : ∃ x, x = draw l0' k0 200 := ⟨_, rfl⟩
      have r0 := draw_range (l := l0') k0 (n := 200) (by decide)
      rw [← hx0] at r0
      obtain ⟨C, hC⟩ : ∃ C : ApC, C = ⟨ib, dl, k0, A0', c0', l0', sb, 3, 1, k, Ar, cr, ints b, q, [.int .i64 x0], #[.slice Ar k cr, .slice (some ⟨ub, 0, none⟩) c.p.bts.length c.p.bts.length], fun A c' => #[.slice A (k + 1) c', .slice (some ⟨ub, 0, none⟩) c.p.bts.length c.p.bts.length], 42⟩ := ⟨_, rfl⟩
      have O : ApOk C wr := by
        subst hC
        exact hO.apOk 0 1 2 rfl rfl rfl (by decide) (by decide) (by decide) hdr hby hln hne hap
      have HX := Lib.hid (And.intro hx0 (And.intro O (And.intro hC hap)))
      clear hx0 O hdr hby hln hne hap hO hbo hbl
      subst hC
      go_upto_region 7 with fail
      refine wp_region_steps (σ := ApS) (by kernel_rfl) (by kernel_rfl) (fun sg jx vx _ => Pf7V ib dl sb x0 k Ar cr sg jx vx) (fun sg ly wx => ApW ⟨ib, dl, k0, A0', c0', l0', sb, 3, 1, k, Ar, cr, ints b, q, [.int .i64 x0], #[.slice Ar k cr, .slice (some ⟨ub, 0, none⟩) c.p.bts.length c.p.bts.length], fun A c' => #[.slice A (k + 1) c', .slice (some ⟨ub, 0, none⟩) c.p.bts.length c.p.bts.length], 42⟩ 4 5 7 Pf7Cnt wr sg ly wx) ⟨0, none, 0, 0⟩ ?_ ?_ ?_
      · exact HX.out.2.1.start (by simp [Pf7Cnt])
      · simp only [AllFrom, Nat.zero_add, Nat.reduceAdd]
        refine ⟨?_, ?_, ?_, ?_, ?_, ?_, ?_, ?_, trivial⟩
        · refine step_pure fun sg ly a wx hl hd hW hF => ?_
          have et10 := hF.old 10 (by kernel_rfl)
          simp [Act.eval] at et10
          exact ⟨hW.other HX.out.2.1 _ (by decide) (by simp [Pf7Cnt, upd]), .pointer (some ⟨sb, 0, none⟩), by go_simp, rfl⟩
        · refine step_pure fun sg ly a wx hl hd hW hF => ?_
          simp [Region.binds] at hd
          have et40 := hF.new 0 40 (by simp [hd]) rfl
          simp [Pf7V, Act.eval] at et40
          have nS := hF.notYet 1 7 hl (by kernel_rfl)
          have hh := hW.hob
          rw [if_neg (by simp [nS])] at hh
          have cL := (cell_of_heap hh 0).trans rfl
          have zL := heap_lt hh
          exact ⟨hW.other HX.out.2.1 _ (by decide) (by simp [Pf7Cnt, upd]), _, by go_simp, rfl⟩
        · refine step_pure fun sg ly a wx hl hd hW hF => ?_
          have et9 := hF.old 9 (by kernel_rfl)
          simp [Act.eval] at et9
          exact ⟨hW.other HX.out.2.1 _ (by decide) (by simp [Pf7Cnt, upd]), .func (.func 70) #[] #[.pointer (some ⟨ib, 0, none⟩), .pointer (some ⟨dl, 0, none⟩)], by go_simp, rfl⟩
        · refine step_call fun sg ly a wx hl hd hW hF => ?_
          simp [Region.binds] at hd
          have et42 := hF.new 2 42 (by simp [hd]) rfl
          simp [Pf7V, Act.eval] at et42
          have hq := hW.next HX.out.2.1 (200) (by decide)
          rw [show Pf7Cnt ly = 0 from by simp [Pf7Cnt, hl]] at hq
          refine ⟨70, #[.int .i64 (200), .pointer (some ⟨ib, 0, none⟩), .pointer (some ⟨dl, 0, none⟩)], by go_simp, ?_⟩
          refine hq.mono ?_
          rintro e w2 ⟨rfl, d2, k2, s2⟩
          exact ⟨.int .i64 x0, sg, by rw [HX.out.1] <;> rfl, hW.call HX.out.2.1 _ (by decide) (by rw [show Pf7Cnt (upd ly 3) = 1 from by simp [Pf7Cnt, upd, hl]]; exact d2) k2, rfl, fun _ _ _ h => h⟩
        · refine step_run fun sg ly a wx hl hd hW hF => ?_
          simp [Region.binds] at hd
          have et43 := hF.new 3 43 (by simp [hd]) rfl
          simp [Pf7V, Act.eval] at et43
          refine ⟨_, wx.alloc (.cells #[.int .i64 x0] 3), { sg with bs := wx.heap.size }, by go_simp, hW.build HX.out.2.1 (by decide) (by simp [Pf7Cnt, upd]), rfl, ?_⟩
          intro i u hi h
          have i4 : i ≠ 4 := by rintro rfl; rw [hl] at hi; cases hi
          unfold Pf7V at h ⊢
          split at h <;> first | exact h | exact absurd rfl i4
        · intro sg ly a wx hl hd hW hF
          simp [Region.binds] at hd
          have et41 := hF.new 1 41 (by simp [hd]) rfl
          simp [Pf7V, Act.eval] at et41
          have et44 := hF.new 4 44 (by simp [hd]) rfl
          simp [Pf7V, Act.eval] at et44
          have nS := hF.notYet 5 7 hl (by kernel_rfl)
          have yB : ly 4 = true := by simp [hd]
          refine hW.at_append HX.out.2.1 (.tmp 41) (.tmp 44) 33 rfl iI _ 8 Try.underlying33 hI0 hI1 hI2 (show (0 : Nat) < 1 from by decide) hI3 rfl (by simpa [Act.eval] using et41) (by simpa [Act.eval] using et44) rfl (by simp [Value.oneCell']) (by simp only; omega) (by omega) (by decide) (by simp [Pf7Cnt, upd]) yB hl nS ?_
          intro g c' w' h'
          refine ⟨{ sg with A := some ⟨g, 0, none⟩, c := c', g := g }, _, rfl, h', fun _ => rfl, ?_⟩
          intro i u hi h
          have i5 : i ≠ 5 := by rintro rfl; rw [hl] at hi; cases hi
          unfold Pf7V at h ⊢
          split at h <;> first | exact h | exact absurd rfl i5
        · refine step_pure fun sg ly a wx hl hd hW hF => ?_
          have et10 := hF.old 10 (by kernel_rfl)
          simp [Act.eval] at et10
          exact ⟨hW.other HX.out.2.1 _ (by decide) (by simp [Pf7Cnt, upd]), .pointer (some ⟨sb, 0, none⟩), by go_simp, rfl⟩
        · refine step_store rfl fun sg ly a wx hl hd hW hF => ?_
          simp [Region.binds] at hd
          have et46 := hF.new 6 46 (by simp [hd]) rfl
          simp [Pf7V, Act.eval] at et46
          have et45 := hF.new 5 45 (by simp [hd]) rfl
          simp [Pf7V, Act.eval] at et45
          have yA : ly 5 = true := by simp [hd]
          have hh := hW.hob
          rw [if_neg (by simp [hl])] at hh
          have cL := (cell_of_heap hh 0).trans rfl
          have fL := frozen_of_heap hh 0
          have zL := heap_lt hh
          exact ⟨_, sg, .skip, by go_simp, .inl rfl, hW.store HX.out.2.1 (by decide) (by simp [Pf7Cnt, upd]) 0 (fun _ _ => rfl) yA hl, fun _ _ _ h => h⟩
      intro sg af w8 hWW hF
      obtain ⟨ff, hf, rfl⟩ := hF.lit
      have S8 := HS.out.1.apDone 0 1 2 rfl rfl rfl (by decide) (by decide) (by decide) HX.out.2.2.2 HX.out.2.1 hWW rfl rfl
      have S8' : Own X2.heap.size X2 [.nx ib dl, .blk sb (.cells #[.slice (sg.A) (k + 1) (sg.c), .slice (some ⟨ub, 0, none⟩) c.p.bts.length c.p.bts.length] 42 (0, 0)), .own 3 1 (sg.A) (k + 1) (sg.c) (ints (b ++ [x0])) [sg.g], .own 4 1 (some ⟨ub, 0, none⟩) c.p.bts.length c.p.bts.length (bools (noB c.p)) [ub]] w8 := by
        have h := S8
        simp only [ints_snoc] at h
        exact h
      have HS8 := Lib.hid S8'
      clear hf hF hWW S8 S8'
      simp only [List.filterMap, List.foldl, List.setIfInBounds_toArray, List.set_cons_succ, List.set_cons_zero]
      go_wp2_with fail
      go_roundg (gk - 1)
      case measure => omega
      case rel => exact ⟨k + 1, b ++ [x0], _, _, _, by omega, by go_num, by rw [List.length_append, HS.out.2.2]; rfl, HS.out.2.1.snoc r0, HS8.out⟩
    · obtain rfl : k = c.p.chs.length := by omega
      clear hO hbo hbl
      obtain ⟨gb, rfl, _⟩ := (HS.out.1.owns 2 rfl).some_ (by omega)
      obtain ⟨s, hs⟩ : ∃ s : StC, s = ⟨sb, gb, cr, ub, b⟩ := ⟨_, rfl⟩
      have SE : StE c s wr := by
        subst hs
        exact StE.of (by simp only [HS.out.2.2]; exact HS.out.1.heap 1 rfl) (by simp only [HS.out.2.2]; exact HS.out.1.owns 2 rfl) (HS.out.1.owns 3 rfl)
      have EE : PoE c wr := HC.out.1.below HS.out.1.bel
      have bw : Below w.heap.size w wr := HC.out.2.trans (HS.out.1.bel.mono HC.out.2.size)
      obtain ⟨e1, e2, e3, e4, e5⟩ : sb = s.sb ∧ gb = s.gb ∧ cr = s.cr ∧ ub = s.ub ∧ b = s.b := by subst hs; exact ⟨rfl, rfl, rfl, rfl, rfl⟩
      have hsl : s.b.length = c.p.chs.length ∧ BrOk 200 s.b := by rw [← e5]; exact ⟨HS.out.2.2, HS.out.2.1⟩
      have HSL := Lib.hid hsl
      have HE := Lib.hid (And.intro EE (And.intro SE bw))
      clear SE EE bw hs hsl
      clear HS
      subst e1 e2 e3 e4 e5
      rcases run_st0 HMd.out.1 HMd.out.2 (B := 200) (by decide) HSL.out.1 HSL.out.2 with hok | hbad
      · have her := hok.1
        have HOK := Lib.hid hok
        clear hok
        have HER := Lib.hid her
        have hlen := HSL.out.1
        skip
        have CC0 := HE.out.1.cells
        have SC := HE.out.2.1.cells
        obtain ⟨q0, q1, q2, q3, q4, q5, zp, zl⟩ := CC0
        obtain ⟨r0, r1, zs⟩ := SC
        rw [HSL.out.1] at r0
        have krun := HE.out.1.run HE.out.2.1
        rw [HSL.out.1] at krun
        have KR := Lib.hid krun
        clear krun hlen
        go_upto_region 10 with (go_at_call 19; refine KR.out.mono ?_; rintro e w10 ⟨Ax, cx, Bx, dx, rfl, SX, b10, _, _⟩; have HX := Lib.hid (And.intro SX b10); clear SX b10)
        try rw [HER.out]
        obtain ⟨ri, hri⟩ : ∃ i, i = runI c.p (st0 c.p s.b) c.l := ⟨_, rfl⟩
        rw [← hri]
        have hxl : (runV c.p (st0 c.p s.b) c.l).brash.length = c.p.chs.length := HOK.out.2.2.2.1.1
        rw [hxl]
        obtain ⟨nb2, hnb2⟩ : ∃ n, n = (runV c.p (st0 c.p s.b) c.l).busy.length := ⟨_, rfl⟩
        rw [← hnb2]
        obtain ⟨xb, hxb⟩ : ∃ b, b = w10.heap.size := ⟨_, rfl⟩
        obtain ⟨X10, hX10⟩ : ∃ X, X = w10.alloc (.cells #[.slice Ax (c.p.chs.length) cx, .slice Bx nb2 dx] 42) := ⟨_, rfl⟩
        first | rw [← hX10, ← hxb] | (simp only [Nat.cast_zero] at *; rw [← hX10, ← hxb])
        have bX : Below wr.heap.size wr X10 := by rw [hX10]; exact HX.out.2.alloc HX.out.2.size _
        have gx : X10.heap[xb]? = some (.cells #[.slice Ax (c.p.chs.length) cx, .slice Bx nb2 dx] 42 (0, 0)) := by rw [hX10, hxb]; exact heap_alloc_new _ _
        have rx : Rd X10 1 Ax (c.p.chs.length) (ints (runV c.p (st0 c.p s.b) c.l).brash) := by have h := HX.out.1.br; rw [hxl] at h; rw [hX10]; exact (h.rd (Nat.le_refl _)).below ((Below.refl _ _).alloc (Nat.le_refl _) _)
        have EX := HE.out.1.below bX
        have SX := HE.out.2.1.below bX
        have HXE := Lib.hid (And.intro EX (And.intro SX (And.intro (HE.out.2.2.trans (bX.mono HE.out.2.2.size)) (And.intro gx rx))))
        clear q0 q1 q2 q3 q4 q5 zp zl r0 r1 zs
        clear EX SX bX gx rx hX10 hxb hri hnb2 hxl
        clear HX KR
        have CC0 := HXE.out.1.cells
        have SC := HXE.out.2.1.cells
        obtain ⟨q0, q1, q2, q3, q4, q5, zp, zl⟩ := CC0
        obtain ⟨r0, r1, zs⟩ := SC
        rw [HSL.out.1] at r0
        have ktr := HXE.out.1.trace HXE.out.2.1
        rw [HSL.out.1] at ktr
        have KT := Lib.hid ktr
        clear ktr
        go_upto_region 11 with (go_at_call 27; refine KT.out.mono ?_; rintro e w11 ⟨At, ct, rows, rfl, LR, hrows, b11⟩; have HT := Lib.hid (And.intro LR (And.intro hrows b11)); clear LR hrows b11)
        try rw [HER.out]
        have HXT := Lib.hid (And.intro (HXE.out.1.below HT.out.2.2) (And.intro (HXE.out.2.1.below HT.out.2.2) (And.intro (HXE.out.2.2.1.trans (HT.out.2.2.mono HXE.out.2.2.1.size)) (And.intro ((HT.out.2.2.block _ (heap_lt HXE.out.2.2.2.1)).trans HXE.out.2.2.2.1) (HXE.out.2.2.2.2.below HT.out.2.2)))))
        clear q0 q1 q2 q3 q4 q5 zp zl r0 r1 zs
        have CC0 := HXT.out.1.cells
        have SC := HXT.out.2.1.cells
        obtain ⟨q0, q1, q2, q3, q4, q5, zp, zl⟩ := CC0
        obtain ⟨r0, r1, zs⟩ := SC
        rw [HSL.out.1] at r0
        have x0 : w11.cell? ⟨xb, 0, none⟩ = some (.slice Ax (c.p.chs.length) cx) := (cell_of_heap HXT.out.2.2.2.1 0).trans rfl
        have zx := heap_lt HXT.out.2.2.2.1
        obtain ⟨tl1, tl2, tl3⟩ := trace_at HER.out
        obtain ⟨N, hN⟩ : ∃ N, N = c.l.hours.toNat + 1 := ⟨_, rfl⟩
        have hh := HMd.out.2.h
        have hN2 : 5 ≤ N ∧ N ≤ 44 := by omega
        have hNh : c.l.hours = (N : Int) - 1 := by omega
        rw [hNh] at q3
        rw [tl1, ← hN]
        have hHN : c.l.hours.toNat = N - 1 := by omega
        clear hNh hh
        have hrl : rows.length = N := by have := congrArg List.length HT.out.2.1; rw [List.length_map, tl1, ← hN] at this; exact this
        obtain ⟨bt, off, rfl, hbt, hct⟩ := HT.out.1.1.2 (by rw [tl1]; omega)
        obtain ⟨ra, hra⟩ : ∃ r, rows[0]? = some r := ⟨_, List.getElem?_eq_getElem (by omega)⟩
        obtain ⟨rz, hrz⟩ : ∃ r, rows[N - 1]? = some r := ⟨_, List.getElem?_eq_getElem (by omega)⟩
        have era : ra.l = s.b := by have := tl2; rw [← HT.out.2.1, List.getElem?_map, hra] at this; injection this
        have erz : rz.l = (runV c.p (st0 c.p s.b) c.l).brash := by have := tl3; rw [← HT.out.2.1, List.getElem?_map, hHN, hrz] at this; injection this
        have t0 := hct 0 ra.v (by rw [List.getElem?_map, hra]; rfl)
        have t1 := hct (N - 1) rz.v (by rw [List.getElem?_map, hrz]; rfl)
        rw [Nat.add_zero] at t0
        unfold LRow.v at t0 t1
        have Ra := HT.out.1.2 ra (List.mem_of_getElem? hra)
        have Rz := HT.out.1.2 rz (List.mem_of_getElem? hrz)
        have hxl : (runV c.p (st0 c.p s.b) c.l).brash.length = c.p.chs.length := HOK.out.2.2.2.1.1
        rw [era] at t0 Ra
        rw [erz] at t1 Rz
        rw [HSL.out.1] at t0
        rw [hxl] at t1 Rz
        have hsb' := HXT.out.2.1.SB.br
        simp only [st0] at hsb'
        have hsbR := hsb'.rd (Nat.le_refl _)
        have KE1 : ∀ n, Calls Try.prog 28 #[.slice rz.A c.p.chs.length rz.c, .slice Ax c.p.chs.length cx] (w11.drewN n) fun e w' => e = .returned (.bool true) ∧ ∃ m, w' = (w11.drewN n).drewN m := fun n => by
          have h := eqIntsQ_any rz.A rz.c (runV c.p (st0 c.p s.b) c.l).brash Ax cx (runV c.p (st0 c.p s.b) c.l).brash (w11.drewN n) (by rw [hxl]; exact Rz) (by rw [hxl]; exact HXT.out.2.2.2.2) (by omega) (by omega)
          rw [decide_eq_true rfl, hxl] at h
          exact h
        have KE2 : ∀ n, Calls Try.prog 28 #[.slice ra.A c.p.chs.length ra.c, .slice (some ⟨s.gb, 0, none⟩) c.p.chs.length s.cr] (w11.drewN n) fun e w' => e = .returned (.bool true) ∧ ∃ m, w' = (w11.drewN n).drewN m := fun n => by
          have hlb := HSL.out.1
          have h := eqIntsQ_any ra.A ra.c s.b (some ⟨s.gb, 0, none⟩) s.cr s.b (w11.drewN n) Ra hsbR (by omega) (by omega)
          rw [decide_eq_true rfl, hlb] at h
          exact h
        have KE := Lib.hid (And.intro KE1 KE2)
        clear KE1 KE2 hsbR hsb' Ra Rz hra hrz era erz hrl tl1 tl2 tl3 hN hct hxl hHN
        go_quiet ((go_at_call 28; first | with_reducible exact Calls.quiet_of (KE.out.1 _) | with_reducible exact Calls.quiet_of (KE.out.2 _)))
        clear t0 t1 hbt hN2
        clear q0 q1 q2 q3 q4 q5 zp zl r0 r1 zs x0 zx
        obtain ⟨wY, hY⟩ : ∃ y, y = w11.drewN nq := ⟨_, rfl⟩
        have bY : Below w11.heap.size w11 wY := by rw [hY]; exact below_drewN (Below.refl _ _) _
        rw [← hY]
        have HY := Lib.hid (And.intro (HXT.out.1.below bY) (And.intro (HXT.out.2.1.below bY) (And.intro (HXT.out.2.2.1.trans (bY.mono HXT.out.2.2.1.size)) (And.intro ((bY.block _ (heap_lt HXT.out.2.2.2.1)).trans HXT.out.2.2.2.1) (HXT.out.2.2.2.2.below bY)))))
        clear bY hY
        have CC0 := HY.out.1.cells
        have SC := HY.out.2.1.cells
        obtain ⟨q0, q1, q2, q3, q4, q5, zp, zl⟩ := CC0
        obtain ⟨r0, r1, zs⟩ := SC
        rw [HSL.out.1] at r0
        go_wp2_with fail
        clear q0 q1 q2 q3 q4 q5 zp zl r0 r1 zs
        go_loopg [16, 119] c.p.chs.length (fun g gd i wx => ∃ k : Nat, g + k = c.p.chs.length ∧ i = .int .i64 k ∧ gd = .bool (goodN c.p c.l s.b k) ∧ Below wY.heap.size wY wx)
        case atStart => exact ⟨0, rfl, rfl, rfl, Below.refl _ _⟩
        case round =>
          obtain ⟨k, hk, rfl, rfl, bR⟩ := hrel
          have HZ := Lib.hid (And.intro (HY.out.1.below bR) (And.intro (HY.out.2.1.below bR) (And.intro (HY.out.2.2.1.trans (bR.mono HY.out.2.2.1.size)) (And.intro ((bR.block _ (heap_lt HY.out.2.2.2.1)).trans HY.out.2.2.2.1) (And.intro (HY.out.2.2.2.2.below bR) bR)))))
          clear bR
          by_cases hlt : k < c.p.chs.length
          · obtain ⟨x, hx⟩ : ∃ x, x = getI s.b k := ⟨_, rfl⟩
            have xc : wr.cell? ⟨s.gb, k, none⟩ = some (.int .i64 x) := by rw [hx]; exact HZ.out.2.1.br (by rw [HSL.out.1]; exact hlt)
            have zg := World.block_lt_of_cell? _ _ xc
            simp only at zg
            obtain ⟨fe, fc⟩ := folds_at HMd.out.1 HMd.out.2 HSL.out.1 HSL.out.2 hlt
            obtain ⟨m, hm⟩ : ∃ m, m = foldS c.p c.l k := ⟨_, rfl⟩
            have gsucc := goodN_succ c.p c.l s.b k
            rw [← hm, ← hx] at fc gsucc
            obtain ⟨gd, hgd⟩ : ∃ g, g = goodN c.p c.l s.b k := ⟨_, rfl⟩
            rw [← hgd] at gsucc ⊢
            have kf := HZ.out.1.fold (k : Int)
            rw [show foldVal c.p c.l k = m from by unfold foldVal; rw [if_pos fe, hm], fe] at kf
            obtain ⟨n, hn⟩ : ∃ n, n = applyN m x := ⟨_, rfl⟩
            obtain ⟨e2, he2⟩ : ∃ e, e = applyE m x := ⟨_, rfl⟩
            have ka : ∀ wx, Calls Try.prog 26 #[.agg #[.int .i64 m.add, .int .i64 m.floor, .int .i64 m.most], .int .i64 x] wx fun e w' => e = .returned (.tuple #[.int .i64 n, .int .i64 e2]) ∧ Below wx.heap.size wx w' := fun wx => by rw [hn, he2]; exact Apply_any m x wx
            rw [← hn, ← he2] at fc
            rw [← he2] at gsucc
            have HF := Lib.hid (And.intro kf ka)
            have HGS := Lib.hid gsucc
            have HAX := Lib.hid hn
            clear kf ka hgd hx hm fe gsucc hn he2
            have CC0 := HZ.out.1.cells
            have SC := HZ.out.2.1.cells
            obtain ⟨q0, q1, q2, q3, q4, q5, zp, zl⟩ := CC0
            obtain ⟨r0, r1, zs⟩ := SC
            rw [HSL.out.1] at r0
            go_upto_region 18 with (go_at_call 29; refine HF.out.1.mono ?_; rintro e w12 ⟨rfl, b12⟩; have HB12 := Lib.hid b12; clear b12)
            obtain ⟨mb, hmb⟩ : ∃ b, b = w12.heap.size := ⟨_, rfl⟩
            obtain ⟨X12, hX12⟩ : ∃ X, X = w12.alloc (.cells #[.int .i64 m.add, .int .i64 m.floor, .int .i64 m.most] 59) := ⟨_, rfl⟩
            rw [← hX12, ← hmb]
            have gm : X12.heap[mb]? = some (.cells #[.int .i64 m.add, .int .i64 m.floor, .int .i64 m.most] 59 (0, 0)) := by rw [hX12, hmb]; exact heap_alloc_new _ _
            have bX12 : Below wr.heap.size wr X12 := by rw [hX12]; exact HB12.out.alloc HB12.out.size _
            have m0 : X12.cell? ⟨mb, 0, none⟩ = some (.int .i64 m.add) := (cell_of_heap gm 0).trans rfl
            have m1 : X12.cell? ⟨mb, 1, none⟩ = some (.int .i64 m.floor) := (cell_of_heap gm 1).trans rfl
            have m2 : X12.cell? ⟨mb, 2, none⟩ = some (.int .i64 m.most) := (cell_of_heap gm 2).trans rfl
            have zm := heap_lt gm
            have HM := Lib.hid (And.intro gm bX12)
            clear q0 q1 q2 q3 q4 q5 zp zl r0 r1 zs xc zg gm bX12 hX12 hmb
            have fc' : e2 = 0 ∧ x ≤ m.most ∧ n = getI (runV c.p (st0 c.p s.b) c.l).brash k := by
              rcases fc with ⟨f1, f2, f3⟩ | ⟨f1, f2, f3⟩
              · exact ⟨f1, f2, f3 her⟩
              · exact absurd her f3
            obtain ⟨rfl, hle, hnv⟩ := fc'
            clear fc
            obtain ⟨gy, oy, hgy⟩ : ∃ g o, Ax = some ⟨g, o, none⟩ := by obtain ⟨g, o, e, _⟩ := HZ.out.2.2.2.2.1.2 (by omega); exact ⟨g, o, e⟩
            have xcl : (runV c.p (st0 c.p s.b) c.l).brash.length = c.p.chs.length := HOK.out.2.2.2.1.1
            have ax : ∀ wx, Below wr.heap.size wr wx → wx.cell? ⟨gy, oy + k, none⟩ = some (.int .i64 n) := fun wx b => by
              obtain ⟨g, o, e, hb, hc⟩ := (HZ.out.2.2.2.2.1.below b).2 (by omega)
              rw [hgy] at e
              injection e with e
              injection e with e1 e2 _
              subst e1 e2
              rw [hnv]
              rw [hc k _ (ints_get (by rw [xcl]; exact hlt))]; simp [getI]
            have HAX2 := Lib.hid (And.intro ax hgy)
            clear ax hnv xcl hgy
            cases gd
            · go_wp2_with (go_at_call 26; refine (HF.out.2 _).mono ?_; rintro e w13 ⟨rfl, b13⟩; have b3 := HM.out.2.trans (b13.mono HM.out.2.size); have gx := (b3.block _ (heap_lt HZ.out.2.2.2.1)).trans HZ.out.2.2.2.1; have x0 : w13.cell? ⟨xb, 0, none⟩ = some (.slice Ax (c.p.chs.length) cx) := (cell_of_heap gx 0).trans rfl; have gm := (b13.block _ (heap_lt HM.out.1)).trans HM.out.1; have m2 : w13.cell? ⟨mb, 2, none⟩ = some (.int .i64 m.most) := (cell_of_heap gm 2).trans rfl; have zm := heap_lt gm; have zx := heap_lt gx; have HN := Lib.hid b3; clear m0 m1 b13 gx gm b3; rw [HAX2.out.2] at x0; have ay := HAX2.out.1 _ HN.out; have zy := World.block_lt_of_cell? _ _ ay; simp only at zy)
              go_roundg (gk - 1)
              case measure => omega
              case rel => exact ⟨k + 1, by omega, by go_num, by rw [HGS.out]; rfl, HZ.out.2.2.2.2.2.trans (HN.out.mono HZ.out.2.2.2.2.2.size)⟩
            · go_wp2_with (go_at_call 26; refine (HF.out.2 _).mono ?_; rintro e w13 ⟨rfl, b13⟩; have b3 := HM.out.2.trans (b13.mono HM.out.2.size); have gx := (b3.block _ (heap_lt HZ.out.2.2.2.1)).trans HZ.out.2.2.2.1; have x0 : w13.cell? ⟨xb, 0, none⟩ = some (.slice Ax (c.p.chs.length) cx) := (cell_of_heap gx 0).trans rfl; have gm := (b13.block _ (heap_lt HM.out.1)).trans HM.out.1; have m2 : w13.cell? ⟨mb, 2, none⟩ = some (.int .i64 m.most) := (cell_of_heap gm 2).trans rfl; have zm := heap_lt gm; have zx := heap_lt gx; have HN := Lib.hid b3; clear m0 m1 b13 gx gm b3; rw [HAX2.out.2] at x0; have ay := HAX2.out.1 _ HN.out; have zy := World.block_lt_of_cell? _ _ ay; simp only at zy)
              go_roundg (gk - 1)
              case measure => omega
              case rel => exact ⟨k + 1, by omega, by go_num, by rw [HGS.out]; rfl, HZ.out.2.2.2.2.2.trans (HN.out.mono HZ.out.2.2.2.2.2.size)⟩
          · obtain rfl : k = c.p.chs.length := by omega
            have hg := good_iff HMd.out.1 HMd.out.2 HSL.out.1 HSL.out.2
            rw [her] at hg
            rw [show goodN c.p c.l s.b c.p.chs.length = true from hg.trans (by decide)]
            clear hg
            have KW := Lib.hid awakeP_any
            go_wp2_with (go_at_call 15; refine (KW.out _).mono ?_; rintro e w14 ⟨rfl, b14⟩; have HW := Lib.hid b14; clear b14)
            go_ret
            exact ⟨rfl, HZ.out.2.2.1.trans (HW.out.mono HZ.out.2.2.1.size)⟩
      · have her := hbad.1
        clear hbad
        have HER := Lib.hid her
        have hlen := HSL.out.1
        skip
        have CC0 := HE.out.1.cells
        have SC := HE.out.2.1.cells
        obtain ⟨q0, q1, q2, q3, q4, q5, zp, zl⟩ := CC0
        obtain ⟨r0, r1, zs⟩ := SC
        rw [HSL.out.1] at r0
        have krun := HE.out.1.run HE.out.2.1
        rw [HSL.out.1] at krun
        have KR := Lib.hid krun
        clear krun hlen
        go_upto_region 10 with (go_at_call 19; refine KR.out.mono ?_; rintro e w10 ⟨Ax, cx, Bx, dx, rfl, SX, b10, _, _⟩; have HX := Lib.hid (And.intro SX b10); clear SX b10)
        try rw [HER.out]
        obtain ⟨ri, hri⟩ : ∃ i, i = runI c.p (st0 c.p s.b) c.l := ⟨_, rfl⟩
        rw [← hri]
        have hxl : (runV c.p (st0 c.p s.b) c.l).brash.length = 0 := by unfold runV; rw [HER.out]; rfl
        rw [hxl]
        obtain ⟨nb2, hnb2⟩ : ∃ n, n = (runV c.p (st0 c.p s.b) c.l).busy.length := ⟨_, rfl⟩
        rw [← hnb2]
        obtain ⟨xb, hxb⟩ : ∃ b, b = w10.heap.size := ⟨_, rfl⟩
        obtain ⟨X10, hX10⟩ : ∃ X, X = w10.alloc (.cells #[.slice Ax (0) cx, .slice Bx nb2 dx] 42) := ⟨_, rfl⟩
        first | rw [← hX10, ← hxb] | (simp only [Nat.cast_zero] at *; rw [← hX10, ← hxb])
        have bX : Below wr.heap.size wr X10 := by rw [hX10]; exact HX.out.2.alloc HX.out.2.size _
        have gx : X10.heap[xb]? = some (.cells #[.slice Ax (0) cx, .slice Bx nb2 dx] 42 (0, 0)) := by rw [hX10, hxb]; exact heap_alloc_new _ _
        have rx : Rd X10 1 Ax (0) (ints (runV c.p (st0 c.p s.b) c.l).brash) := by have h := HX.out.1.br; rw [hxl] at h; rw [hX10]; exact (h.rd (Nat.le_refl _)).below ((Below.refl _ _).alloc (Nat.le_refl _) _)
        have EX := HE.out.1.below bX
        have SX := HE.out.2.1.below bX
        have HXE := Lib.hid (And.intro EX (And.intro SX (And.intro (HE.out.2.2.trans (bX.mono HE.out.2.2.size)) (And.intro gx rx))))
        clear q0 q1 q2 q3 q4 q5 zp zl r0 r1 zs
        clear EX SX bX gx rx hX10 hxb hri hnb2 hxl
        clear HX KR
        have CC0 := HXE.out.1.cells
        have SC := HXE.out.2.1.cells
        obtain ⟨q0, q1, q2, q3, q4, q5, zp, zl⟩ := CC0
        obtain ⟨r0, r1, zs⟩ := SC
        rw [HSL.out.1] at r0
        have ktr := HXE.out.1.trace HXE.out.2.1
        rw [HSL.out.1] at ktr
        have KT := Lib.hid ktr
        clear ktr
        go_upto_region 11 with (go_at_call 27; refine KT.out.mono ?_; rintro e w11 ⟨At, ct, rows, rfl, LR, hrows, b11⟩; have HT := Lib.hid (And.intro LR (And.intro hrows b11)); clear LR hrows b11)
        try rw [HER.out]
        have HXT := Lib.hid (And.intro (HXE.out.1.below HT.out.2.2) (And.intro (HXE.out.2.1.below HT.out.2.2) (And.intro (HXE.out.2.2.1.trans (HT.out.2.2.mono HXE.out.2.2.1.size)) (And.intro ((HT.out.2.2.block _ (heap_lt HXE.out.2.2.2.1)).trans HXE.out.2.2.2.1) (HXE.out.2.2.2.2.below HT.out.2.2)))))
        clear q0 q1 q2 q3 q4 q5 zp zl r0 r1 zs
        have CC0 := HXT.out.1.cells
        have SC := HXT.out.2.1.cells
        obtain ⟨q0, q1, q2, q3, q4, q5, zp, zl⟩ := CC0
        obtain ⟨r0, r1, zs⟩ := SC
        rw [HSL.out.1] at r0
        have x0 : w11.cell? ⟨xb, 0, none⟩ = some (.slice Ax (0) cx) := (cell_of_heap HXT.out.2.2.2.1 0).trans rfl
        have zx := heap_lt HXT.out.2.2.2.1
        obtain ⟨tN, htN⟩ : ∃ n, n = (traceV c.p (st0 c.p s.b) c.l).length := ⟨_, rfl⟩
        rw [← htN]
        go_quiet (fail)
        clear htN
        clear q0 q1 q2 q3 q4 q5 zp zl r0 r1 zs x0 zx
        obtain ⟨wY, hY⟩ : ∃ y, y = w11.drewN nq := ⟨_, rfl⟩
        have bY : Below w11.heap.size w11 wY := by rw [hY]; exact below_drewN (Below.refl _ _) _
        rw [← hY]
        have HY := Lib.hid (And.intro (HXT.out.1.below bY) (And.intro (HXT.out.2.1.below bY) (And.intro (HXT.out.2.2.1.trans (bY.mono HXT.out.2.2.1.size)) (And.intro ((bY.block _ (heap_lt HXT.out.2.2.2.1)).trans HXT.out.2.2.2.1) (HXT.out.2.2.2.2.below bY)))))
        clear bY hY
        have CC0 := HY.out.1.cells
        have SC := HY.out.2.1.cells
        obtain ⟨q0, q1, q2, q3, q4, q5, zp, zl⟩ := CC0
        obtain ⟨r0, r1, zs⟩ := SC
        rw [HSL.out.1] at r0
        go_wp2_with fail
        clear q0 q1 q2 q3 q4 q5 zp zl r0 r1 zs
        go_loopg [16, 119] c.p.chs.length (fun g gd i wx => ∃ k : Nat, g + k = c.p.chs.length ∧ i = .int .i64 k ∧ gd = .bool (goodN c.p c.l s.b k) ∧ Below wY.heap.size wY wx)
        case atStart => exact ⟨0, rfl, rfl, rfl, Below.refl _ _⟩
        case round =>
          obtain ⟨k, hk, rfl, rfl, bR⟩ := hrel
          have HZ := Lib.hid (And.intro (HY.out.1.below bR) (And.intro (HY.out.2.1.below bR) (And.intro (HY.out.2.2.1.trans (bR.mono HY.out.2.2.1.size)) (And.intro ((bR.block _ (heap_lt HY.out.2.2.2.1)).trans HY.out.2.2.2.1) (And.intro (HY.out.2.2.2.2.below bR) bR)))))
          clear bR
          by_cases hlt : k < c.p.chs.length
          · obtain ⟨x, hx⟩ : ∃ x, x = getI s.b k := ⟨_, rfl⟩
            have xc : wr.cell? ⟨s.gb, k, none⟩ = some (.int .i64 x) := by rw [hx]; exact HZ.out.2.1.br (by rw [HSL.out.1]; exact hlt)
            have zg := World.block_lt_of_cell? _ _ xc
            simp only at zg
            obtain ⟨fe, fc⟩ := folds_at HMd.out.1 HMd.out.2 HSL.out.1 HSL.out.2 hlt
            obtain ⟨m, hm⟩ : ∃ m, m = foldS c.p c.l k := ⟨_, rfl⟩
            have gsucc := goodN_succ c.p c.l s.b k
            rw [← hm, ← hx] at fc gsucc
            obtain ⟨gd, hgd⟩ : ∃ g, g = goodN c.p c.l s.b k := ⟨_, rfl⟩
            rw [← hgd] at gsucc ⊢
            have kf := HZ.out.1.fold (k : Int)
            rw [show foldVal c.p c.l k = m from by unfold foldVal; rw [if_pos fe, hm], fe] at kf
            obtain ⟨n, hn⟩ : ∃ n, n = applyN m x := ⟨_, rfl⟩
            obtain ⟨e2, he2⟩ : ∃ e, e = applyE m x := ⟨_, rfl⟩
            have ka : ∀ wx, Calls Try.prog 26 #[.agg #[.int .i64 m.add, .int .i64 m.floor, .int .i64 m.most], .int .i64 x] wx fun e w' => e = .returned (.tuple #[.int .i64 n, .int .i64 e2]) ∧ Below wx.heap.size wx w' := fun wx => by rw [hn, he2]; exact Apply_any m x wx
            rw [← hn, ← he2] at fc
            rw [← he2] at gsucc
            have HF := Lib.hid (And.intro kf ka)
            have HGS := Lib.hid gsucc
            have HAX := Lib.hid hn
            clear kf ka hgd hx hm fe gsucc hn he2
            have CC0 := HZ.out.1.cells
            have SC := HZ.out.2.1.cells
            obtain ⟨q0, q1, q2, q3, q4, q5, zp, zl⟩ := CC0
            obtain ⟨r0, r1, zs⟩ := SC
            rw [HSL.out.1] at r0
            go_upto_region 18 with (go_at_call 29; refine HF.out.1.mono ?_; rintro e w12 ⟨rfl, b12⟩; have HB12 := Lib.hid b12; clear b12)
            obtain ⟨mb, hmb⟩ : ∃ b, b = w12.heap.size := ⟨_, rfl⟩
            obtain ⟨X12, hX12⟩ : ∃ X, X = w12.alloc (.cells #[.int .i64 m.add, .int .i64 m.floor, .int .i64 m.most] 59) := ⟨_, rfl⟩
            rw [← hX12, ← hmb]
            have gm : X12.heap[mb]? = some (.cells #[.int .i64 m.add, .int .i64 m.floor, .int .i64 m.most] 59 (0, 0)) := by rw [hX12, hmb]; exact heap_alloc_new _ _
            have bX12 : Below wr.heap.size wr X12 := by rw [hX12]; exact HB12.out.alloc HB12.out.size _
            have m0 : X12.cell? ⟨mb, 0, none⟩ = some (.int .i64 m.add) := (cell_of_heap gm 0).trans rfl
            have m1 : X12.cell? ⟨mb, 1, none⟩ = some (.int .i64 m.floor) := (cell_of_heap gm 1).trans rfl
            have m2 : X12.cell? ⟨mb, 2, none⟩ = some (.int .i64 m.most) := (cell_of_heap gm 2).trans rfl
            have zm := heap_lt gm
            have HM := Lib.hid (And.intro gm bX12)
            clear q0 q1 q2 q3 q4 q5 zp zl r0 r1 zs xc zg gm bX12 hX12 hmb
            rcases fc with ⟨f1, f2, f3⟩ | ⟨f1, f2, f3⟩
            · subst f1
              clear f3
              cases gd
              · go_wp2_with (go_at_call 26; refine (HF.out.2 _).mono ?_; rintro e w13 ⟨rfl, b13⟩; have b3 := HM.out.2.trans (b13.mono HM.out.2.size); have gx := (b3.block _ (heap_lt HZ.out.2.2.2.1)).trans HZ.out.2.2.2.1; have x0 : w13.cell? ⟨xb, 0, none⟩ = some (.slice Ax (0) cx) := (cell_of_heap gx 0).trans rfl; have gm := (b13.block _ (heap_lt HM.out.1)).trans HM.out.1; have m2 : w13.cell? ⟨mb, 2, none⟩ = some (.int .i64 m.most) := (cell_of_heap gm 2).trans rfl; have zm := heap_lt gm; have zx := heap_lt gx; have HN := Lib.hid b3; clear m0 m1 b13 gx gm b3)
                go_roundg (gk - 1)
                case measure => omega
                case rel => exact ⟨k + 1, by omega, by go_num, by rw [HGS.out]; rfl, HZ.out.2.2.2.2.2.trans (HN.out.mono HZ.out.2.2.2.2.2.size)⟩
              · go_wp2_with (go_at_call 26; refine (HF.out.2 _).mono ?_; rintro e w13 ⟨rfl, b13⟩; have b3 := HM.out.2.trans (b13.mono HM.out.2.size); have gx := (b3.block _ (heap_lt HZ.out.2.2.2.1)).trans HZ.out.2.2.2.1; have x0 : w13.cell? ⟨xb, 0, none⟩ = some (.slice Ax (0) cx) := (cell_of_heap gx 0).trans rfl; have gm := (b13.block _ (heap_lt HM.out.1)).trans HM.out.1; have m2 : w13.cell? ⟨mb, 2, none⟩ = some (.int .i64 m.most) := (cell_of_heap gm 2).trans rfl; have zm := heap_lt gm; have zx := heap_lt gx; have HN := Lib.hid b3; clear m0 m1 b13 gx gm b3)
                go_roundg (gk - 1)
                case measure => omega
                case rel => exact ⟨k + 1, by omega, by go_num, by rw [HGS.out]; rfl, HZ.out.2.2.2.2.2.trans (HN.out.mono HZ.out.2.2.2.2.2.size)⟩
            · subst f1
              clear f3
              cases gd
              · go_wp2_with (go_at_call 26; refine (HF.out.2 _).mono ?_; rintro e w13 ⟨rfl, b13⟩; have b3 := HM.out.2.trans (b13.mono HM.out.2.size); have gx := (b3.block _ (heap_lt HZ.out.2.2.2.1)).trans HZ.out.2.2.2.1; have x0 : w13.cell? ⟨xb, 0, none⟩ = some (.slice Ax (0) cx) := (cell_of_heap gx 0).trans rfl; have gm := (b13.block _ (heap_lt HM.out.1)).trans HM.out.1; have m2 : w13.cell? ⟨mb, 2, none⟩ = some (.int .i64 m.most) := (cell_of_heap gm 2).trans rfl; have zm := heap_lt gm; have zx := heap_lt gx; have HN := Lib.hid b3; clear m0 m1 b13 gx gm b3)
                go_roundg (gk - 1)
                case measure => omega
                case rel => exact ⟨k + 1, by omega, by go_num, by rw [HGS.out]; rfl, HZ.out.2.2.2.2.2.trans (HN.out.mono HZ.out.2.2.2.2.2.size)⟩
              · go_wp2_with (go_at_call 26; refine (HF.out.2 _).mono ?_; rintro e w13 ⟨rfl, b13⟩; have b3 := HM.out.2.trans (b13.mono HM.out.2.size); have gx := (b3.block _ (heap_lt HZ.out.2.2.2.1)).trans HZ.out.2.2.2.1; have x0 : w13.cell? ⟨xb, 0, none⟩ = some (.slice Ax (0) cx) := (cell_of_heap gx 0).trans rfl; have gm := (b13.block _ (heap_lt HM.out.1)).trans HM.out.1; have m2 : w13.cell? ⟨mb, 2, none⟩ = some (.int .i64 m.most) := (cell_of_heap gm 2).trans rfl; have zm := heap_lt gm; have zx := heap_lt gx; have HN := Lib.hid b3; clear m0 m1 b13 gx gm b3)
                go_roundg (gk - 1)
                case measure => omega
                case rel => exact ⟨k + 1, by omega, by go_num, by rw [HGS.out]; rfl, HZ.out.2.2.2.2.2.trans (HN.out.mono HZ.out.2.2.2.2.2.size)⟩
          · obtain rfl : k = c.p.chs.length := by omega
            have hg := good_iff HMd.out.1 HMd.out.2 HSL.out.1 HSL.out.2
            rw [her] at hg
            rw [show goodN c.p c.l s.b c.p.chs.length = false from hg.trans (by decide)]
            clear hg
            have KW := Lib.hid awakeP_any
            go_wp2_with (go_at_call 15; refine (KW.out _).mono ?_; rintro e w14 ⟨rfl, b14⟩; have HW := Lib.hid b14; clear b14)
            go_ret
            exact ⟨rfl, HZ.out.2.2.1.trans (HW.out.mono HZ.out.2.2.1.size)⟩
end Go.Proofs.Ythmldeningpjbaa
