import Derived.Test.YthmldeningpjbaaPLp26
set_option linter.unusedVariables false
set_option linter.unusedSimpArgs false
set_option maxRecDepth 100000
set_option maxHeartbeats 40000000
namespace Go.Proofs.Ythmldeningpjbaa
open Go Go.RowKit Go.Lib Sp Pt
theorem leB_snoc {a b : List Int} (h : LeB a b) {x y : Int} (hx : x ≤ y) : LeB (a ++ [x]) (b ++ [y]) := leB_of (by simp [h.1]) fun i hi => by
  rw [List.length_append, List.length_singleton] at hi;have h2 := h.2 i;unfold getI at h2;simp only [Int.toNat_natCast] at h2;by_cases hl : i < a.length
  · simp only [List.getD_eq_getElem?_getD] at h2 ⊢;rw [List.getElem?_append_left hl, List.getElem?_append_left (by rw [← h.1]; exact hl)]; exact h2
  · obtain rfl : i = a.length := by omega
    simp only [List.getD_eq_getElem?_getD];rw [List.getElem?_append_right (Nat.le_refl _), List.getElem?_append_right (by rw [h.1]; exact Nat.le_refl _), Nat.sub_self, h.1, Nat.sub_self];exact hx
structure L4S where
  u1 : Nat
  u2 : Nat
  b1 : Nat
  b2 : Nat
structure L8S where
  x : Int
  s1 : Nat
  s2 : Nat
  A1 : Option Addr
  c1 : Nat
  q1 : List Nat
  A2 : Option Addr
  c2 : Nat
  q2 : List Nat
theorem own_busy (w : World) (c : PoC) (hn : c.p.bts.length ≤ 1000) : OwnS (w.alloc (.cells (falses c.p.bts.length) 4)) 4 1 (some ⟨w.heap.size, 0, none⟩) c.p.bts.length c.p.bts.length (bools (noB c.p)) [w.heap.size] := by
  have h := own_new w 4 c.p.bts.length (bools (noB c.p)) (by simp [bools, noB]) (by omega)
  rwa [show (bools (noB c.p)).toArray = falses c.p.bts.length from by simp [bools, noB, falses]] at h
def Lx4V (pb n cb : Nat) (Ab : Option Addr) (s : L4S) : Nat → Value → Prop
  | 0, v => v = .pointer (some ⟨pb, 1, none⟩)
  | 1, v => v = .slice Ab n cb
  | 2, v => v = .int .i64 n
  | 3, v => v = .slice (some ⟨s.u1, 0, none⟩) n n
  | 4, v => v = .agg #[.slice none 0 0, .slice (some ⟨s.u1, 0, none⟩) n n]
  | 5, v => v = .pointer (some ⟨pb, 1, none⟩)
  | 6, v => v = .slice Ab n cb
  | 7, v => v = .int .i64 n
  | 8, v => v = .slice (some ⟨s.u2, 0, none⟩) n n
  | 9, v => v = .agg #[.slice none 0 0, .slice (some ⟨s.u2, 0, none⟩) n n]
  | 10, v => v = .pointer (some ⟨s.b1, 0, none⟩)
  | 11, v => v = .pointer (some ⟨s.b2, 0, none⟩)
  | _, _ => True
def Lx8V (jb el sb tb k cs ct : Nat) (As At : Option Addr) (n : Int) (s : L8S) : Nat → Value → Prop
  | 0, v => v = .pointer (some ⟨sb, 0, none⟩)
  | 1, v => v = .slice As k cs
  | 2, v => v = .int .i64 n
  | 3, v => v = .slice (some ⟨s.s1, 0, none⟩) 1 1
  | 4, v => v = .slice s.A1 (k + 1) s.c1
  | 5, v => v = .pointer (some ⟨tb, 0, none⟩)
  | 6, v => v = .slice At k ct
  | 7, v => v = .int .i64 n
  | 8, v => v = .func (.func 70) #[] #[.pointer (some ⟨jb, 0, none⟩), .pointer (some ⟨el, 0, none⟩)]
  | 9, v => v = .int .i64 s.x
  | 10, v => v = .int .i64 (n - s.x)
  | 11, v => v = .int .i64 (max 0 (n - s.x))
  | 12, v => v = .slice (some ⟨s.s2, 0, none⟩) 1 1
  | 13, v => v = .slice s.A2 (k + 1) s.c2
  | 14, v => v = .pointer (some ⟨sb, 0, none⟩)
  | 16, v => v = .pointer (some ⟨tb, 0, none⟩)
  | _, _ => True
theorem less_any (A0 : Option Addr) (c0 : Nat) (l0 : List Int) (A1 : Option Addr) (c1 : Nat) (l1 : List Int) (A2 : Option Addr) (c2 : Nat) (l2 : List Int) (A3 : Option Addr) (c3 : Nat) (l3 : List Int) (x4 x5 : Int) (w : World)
    (hr0 : Rd w 1 A0 l0.length (byts l0)) (hl0 : Bytes l0) (hm0 : l0.length ≤ 9223372036854775800) (hr1 : Rd w 1 A1 l1.length (byts l1)) (hl1 : Bytes l1) (hm1 : l1.length ≤ 9223372036854775800) (hr2 : Rd w 1 A2 l2.length (byts l2)) (hl2 : Bytes l2) (hm2 : l2.length ≤ 9223372036854775800) (hr3 : Rd w 1 A3 l3.length (byts l3)) (hl3 : Bytes l3) (hm3 : l3.length ≤ 9223372036854775800)
    (hx4 : 0 ≤ x4 ∧ x4 ≤ 255) (hx5 : 0 ≤ x5 ∧ x5 ≤ 255) :
    Calls Try.prog 10 #[.slice A0 l0.length c0, .slice A1 l1.length c1, .slice A2 l2.length c2, .slice A3 l3.length c3, .int .u8 x4, .int .u8 x5] w fun e w' => e = .returned (.bool true) ∧ Below w.heap.size w w' := by
  obtain ⟨iB, hB0, hB1, hB2, hB3⟩ := info_parts info_boolP;obtain ⟨iI, hI0, hI1, hI2, hI3⟩ := info_parts info_intP;have HR0 := Lib.hid (And.intro hr0 (And.intro hl0 hm0));have HR1 := Lib.hid (And.intro hr1 (And.intro hl1 hm1));have HR2 := Lib.hid (And.intro hr2 (And.intro hl2 hm2));have HR3 := Lib.hid (And.intro hr3 (And.intro hl3 hm3));have HX5 := Lib.hid (And.intro hx4 hx5);clear hr0 hl0 hm0 hr1 hl1 hm1 hr2 hl2 hm2 hr3 hl3 hm3 hx4 hx5
  go_enter Try.func10, Try.ntmps10
  obtain ⟨w1, hw1⟩ : ∃ x : World, x = x := ⟨w, rfl⟩;clear hw1 w1;go_upto_region 2 with (go_at_call 12; refine (Made9_any A0 c0 l0 w HR0.out.1 HR0.out.2.1 (by have := HR0.out.2.2; omega)).mono ?_; rintro e w1 ⟨Ac, cc, Ab, cb, p, rfl, hp, PB, b1⟩; have H1 := Lib.hid (And.intro hp (And.intro PB b1)); clear hp PB b1)
  obtain ⟨pb, hpb⟩ : ∃ b, b = w1.heap.size := ⟨_, rfl⟩;obtain ⟨X1, hX1⟩ : ∃ X, X = w1.alloc (.cells (prtV Ac cc Ab cb p) 26) := ⟨_, rfl⟩;rw [← hX1, ← hpb];have bX1 : Below w1.heap.size w1 X1 := by rw [hX1]; exact (Below.refl _ _).alloc (Nat.le_refl _) _
  have kpl : Calls Try.prog 13 #[.agg (prtV Ac cc Ab cb p), .slice A1 l1.length c1] X1 (PlanPost X1 p) := Planned_any w1.heap.size Ac cc Ab cb p A1 c1 l1 X1 (H1.out.2.1.below bX1) H1.out.1 bX1.size (HR1.out.1.below (H1.out.2.2.trans (bX1.mono H1.out.2.2.size))) HR1.out.2.1 (by have := HR1.out.2.2; omega);have gp : X1.heap[pb]? = some (.cells (prtV Ac cc Ab cb p) 26 (0, 0)) := by rw [hX1, hpb]; exact heap_alloc_new _ _
  have q0 : X1.cell? ⟨pb, 0, none⟩ = some (.slice Ac p.chs.length cc) := (cOH gp 0).trans rfl;have q1 : X1.cell? ⟨pb, 1, none⟩ = some (.slice Ab p.bts.length cb) := (cOH gp 1).trans rfl;have q2 : X1.cell? ⟨pb, 2, none⟩ = some (.int .i64 p.tugs) := (cOH gp 2).trans rfl;have zp := hL_ gp;have HP1 := Lib.hid (And.intro kpl (And.intro hX1 (And.intro hpb bX1)));clear kpl gp hX1 hpb bX1;go_upto_region 3 with (go_at_call 13; refine HP1.out.1.mono ?_; rintro e w2 ⟨Al, cl, As, cs, l, rfl, hl, LB, b2⟩; have H2 := Lib.hid (And.intro hl (And.intro LB b2)); clear hl LB b2)
  obtain ⟨c, hc⟩ : ∃ c : PoC, c = ⟨w1.heap.size, w2.heap.size, Ac, cc, Ab, cb, p, Al, cl, As, cs, l⟩ := ⟨_, rfl⟩;obtain ⟨X2, hX2⟩ : ∃ X, X = w2.alloc (.cells (plnV Al cl As cs l) 31) := ⟨_, rfl⟩;have E2 : PoE c X2 := by
    rw [hc, hX2];refine PoE.made H1.out.2.1 H2.out.2.1 ?_;have := H2.out.2.2;rw [HP1.out.2.1, World.size_alloc] at this;exact this
  have b2 : Below w.heap.size w X2 := by
    rw [hX2];have h := (H1.out.2.2.trans (HP1.out.2.2.2.mono H1.out.2.2.size)).trans (H2.out.2.2.mono (by have := H1.out.2.2.size; have := HP1.out.2.2.2.size; omega));exact h.alloc h.size _
  have HMd : Hid (MdP c.p ∧ MdL c.p c.l) := Lib.hid (by rw [hc]; exact ⟨H1.out.1, H2.out.1⟩);have HC := Lib.hid (And.intro E2 b2);have ep : pb = c.pb := by rw [HP1.out.2.2.1, hc]
  have el : w2.heap.size = c.lb := by rw [hc]
  have e0 : Ac = c.Ac ∧ cc = c.cc ∧ Ab = c.Ab ∧ cb = c.cb ∧ p = c.p ∧ Al = c.Al ∧ cl = c.cl ∧ As = c.As ∧ cs = c.cs ∧ l = c.l := by rw [hc]; exact ⟨rfl, rfl, rfl, rfl, rfl, rfl, rfl, rfl, rfl, rfl⟩
  obtain ⟨e1, e2, e3, e4, e5, e6, e7, e8, e9, e10⟩ := e0;rw [← hX2, el, ep];clear q0 q1 q2 zp E2 b2 hX2 hc el;clear HP1 H1 H2;subst e1 e2 e3 e4 e5 e6 e7 e8 e9 e10 ep;have kd1 : Calls Try.prog 16 #[.slice A2 l2.length c2] X2 (DrawnPost X2.heap.size X2) := drawn_at X2.heap.size A2 c2 l2 w X2 HR2.out.1 HR2.out.2.1 HR2.out.2.2 HC.out.2 HC.out.2.size (Nat.le_refl _);have kd2 : ∀ wy, Below X2.heap.size X2 wy → Calls Try.prog 16 #[.slice A3 l3.length c3] wy (DrawnPost X2.heap.size wy) := fun wy hy => drawn_at X2.heap.size A3 c3 l3 w wy HR3.out.1 HR3.out.2.1 HR3.out.2.2 (HC.out.2.trans (hy.mono HC.out.2.size)) HC.out.2.size hy.size;have HDR := Lib.hid (And.intro kd1 kd2);clear kd1 kd2;go_upto_region 4 with (first
    | (go_at_call 16; have bb := S3; clear bb; refine (HDR.out.2 w3 S3.out.bel).mono ?_; rintro e w4 ⟨jb, el, rfl, nx2, hjb, hel, b2⟩; have HS4 := Lib.hid (S3.out.new b2 (i := .nx jb el) nx2 (by simp [It.fp]; omega)); clear nx2 hjb hel b2)
    | (go_at_call 16; refine HDR.out.1.mono ?_; rintro e w3 ⟨ib, dl, rfl, nx1, hib, hdl, b1⟩; have S3 := Lib.hid ((Own.start X2).new b1 (i := .nx ib dl) nx1 (by simp [It.fp]; omega)); clear nx1 hib hdl b1))
  clear HDR;have hnb := HMd.out.1.nb;have hnc := HMd.out.1.nc;refine wRS (σ := L4S) (by kernel_rfl) (by kernel_rfl) (fun sg jx vx _ => Lx4V c.pb c.p.bts.length c.cb c.Ab sg jx vx) (fun sg ly wx => Own X2.heap.size X2 [It.nx ib dl, It.nx jb el, if ly 3 = true then It.own 4 1 (some ⟨sg.u1, 0, none⟩) c.p.bts.length c.p.bts.length (bools (noB c.p)) [sg.u1] else noIt, if ly 8 = true then It.own 4 1 (some ⟨sg.u2, 0, none⟩) c.p.bts.length c.p.bts.length (bools (noB c.p)) [sg.u2] else noIt, if ly 10 = true then It.blk sg.b1 (.cells (if ly 12 = true then #[.slice none 0 0, .slice (some ⟨sg.u1, 0, none⟩) c.p.bts.length c.p.bts.length] else #[.slice none 0 0, .slice none 0 0]) 42) else noIt, if ly 11 = true then It.blk sg.b2 (.cells (if ly 13 = true then #[.slice none 0 0, .slice (some ⟨sg.u2, 0, none⟩) c.p.bts.length c.p.bts.length] else #[.slice none 0 0, .slice none 0 0]) 42) else noIt] wx) ⟨0, 0, 0, 0⟩ ?_ ?_ ?_
  · exact HS4.out.blank.blank.blank.blank.drew
  · simp only [AllFrom, Nat.zero_add, Nat.reduceAdd];refine ⟨?_, ?_, ?_, ?_, ?_, ?_, ?_, ?_, ?_, ?_, ?_, ?_, ?_, ?_, trivial⟩
    · refine sP_ fun sg ly act wx hl hd hW hF => ?_;have et13 := hF.old 13 (by kernel_rfl);simp [Act.eval] at et13;exact ⟨hW, .pointer (some ⟨c.pb, 1, none⟩), by go_simp, rfl⟩
    · refine sP_ fun sg ly act wx hl hd hW hF => ?_;simp [Region.binds] at hd;have et53 := hF.new 0 53 (by simp [hd]) rfl;simp [Lx4V, Act.eval] at et53;have hO := hW;try dsimp only at hO
      obtain ⟨q0, q1, q2, q3, q4, q5, zp, zl⟩ := (HC.out.1.below hO.bel).cells;exact ⟨hW, .slice c.Ab c.p.bts.length c.cb, by go_simp, rfl⟩
    · refine sP_ fun sg ly act wx hl hd hW hF => ?_;simp [Region.binds] at hd;have et54 := hF.new 1 54 (by simp [hd]) rfl;simp [Lx4V, Act.eval] at et54;exact ⟨hW, .int .i64 c.p.bts.length, by go_simp, rfl⟩
    · refine sR_ fun sg ly act wx hl hd hW hF => ?_;simp [Region.binds] at hd;have et55 := hF.new 2 55 (by simp [hd]) rfl;simp [Lx4V, Act.eval] at et55;have n4 := hF.notYet 3 4 hl (by kernel_rfl);have n12 := hF.notYet 3 12 hl (by kernel_rfl);have hO := hW;try dsimp only at hO
      simp only [hl, n4, n12, Bool.false_eq_true, if_false, if_true] at hO;have mk := run_make_bools (P := Try.prog) 40 4 iB Try.underlying40 hB0 hB1 hB2 hB3 c.p.bts.length (by omega) wx;refine ⟨_, wx.alloc (.cells (falses c.p.bts.length) 4), { sg with u1 := wx.heap.size }, by go_simp, ?_, rfl, ?_⟩
      · have hN := hO.upd 2 rfl ((Keep.refl _ _).alloc (.cells (falses c.p.bts.length) 4)) (i' := .own 4 1 (some ⟨wx.heap.size, 0, none⟩) c.p.bts.length c.p.bts.length (bools (noB c.p)) [wx.heap.size]) (own_busy wx c (by omega)) (fun x hx => .inr (by rw [List.mem_singleton.1 hx]; exact Nat.le_refl _));simpa [upd, n4, n12] using hN
      · intro i u hi h;have i3 : i ≠ 3 := by rintro rfl; rw [hl] at hi; cases hi
        have i4 : i ≠ 4 := by rintro rfl; rw [n4] at hi; cases hi
        have i12 : i ≠ 12 := by rintro rfl; rw [n12] at hi; cases hi
        unfold Lx4V at h ⊢;split at h <;> first | exact h | exact absurd rfl i3 | exact absurd rfl i4 | exact absurd rfl i12
    · refine sP_ fun sg ly act wx hl hd hW hF => ?_;simp [Region.binds] at hd;have et56 := hF.new 3 56 (by simp [hd]) rfl;simp [Lx4V, Act.eval] at et56;exact ⟨hW, .agg #[.slice none 0 0, .slice (some ⟨sg.u1, 0, none⟩) c.p.bts.length c.p.bts.length], by go_simp, rfl⟩
    · refine sP_ fun sg ly act wx hl hd hW hF => ?_;have et13 := hF.old 13 (by kernel_rfl);simp [Act.eval] at et13;exact ⟨hW, .pointer (some ⟨c.pb, 1, none⟩), by go_simp, rfl⟩
    · refine sP_ fun sg ly act wx hl hd hW hF => ?_;simp [Region.binds] at hd;have et58 := hF.new 5 58 (by simp [hd]) rfl;simp [Lx4V, Act.eval] at et58;have hO := hW;try dsimp only at hO
      obtain ⟨q0, q1, q2, q3, q4, q5, zp, zl⟩ := (HC.out.1.below hO.bel).cells;exact ⟨hW, .slice c.Ab c.p.bts.length c.cb, by go_simp, rfl⟩
    · refine sP_ fun sg ly act wx hl hd hW hF => ?_;simp [Region.binds] at hd;have et59 := hF.new 6 59 (by simp [hd]) rfl;simp [Lx4V, Act.eval] at et59;exact ⟨hW, .int .i64 c.p.bts.length, by go_simp, rfl⟩
    · refine sR_ fun sg ly act wx hl hd hW hF => ?_;simp [Region.binds] at hd;have et60 := hF.new 7 60 (by simp [hd]) rfl;simp [Lx4V, Act.eval] at et60;have n9 := hF.notYet 8 9 hl (by kernel_rfl);have n13 := hF.notYet 8 13 hl (by kernel_rfl);have hO := hW;try dsimp only at hO
      simp only [hl, n9, n13, Bool.false_eq_true, if_false, if_true] at hO;have mk := run_make_bools (P := Try.prog) 40 4 iB Try.underlying40 hB0 hB1 hB2 hB3 c.p.bts.length (by omega) wx;refine ⟨_, wx.alloc (.cells (falses c.p.bts.length) 4), { sg with u2 := wx.heap.size }, by go_simp, ?_, rfl, ?_⟩
      · have hN := hO.upd 3 rfl ((Keep.refl _ _).alloc (.cells (falses c.p.bts.length) 4)) (i' := .own 4 1 (some ⟨wx.heap.size, 0, none⟩) c.p.bts.length c.p.bts.length (bools (noB c.p)) [wx.heap.size]) (own_busy wx c (by omega)) (fun x hx => .inr (by rw [List.mem_singleton.1 hx]; exact Nat.le_refl _));simpa [upd, n9, n13] using hN
      · intro i u hi h;have i8 : i ≠ 8 := by rintro rfl; rw [hl] at hi; cases hi
        have i9 : i ≠ 9 := by rintro rfl; rw [n9] at hi; cases hi
        have i13 : i ≠ 13 := by rintro rfl; rw [n13] at hi; cases hi
        unfold Lx4V at h ⊢;split at h <;> first | exact h | exact absurd rfl i8 | exact absurd rfl i9 | exact absurd rfl i13
    · refine sP_ fun sg ly act wx hl hd hW hF => ?_;simp [Region.binds] at hd;have et61 := hF.new 8 61 (by simp [hd]) rfl;simp [Lx4V, Act.eval] at et61;exact ⟨hW, .agg #[.slice none 0 0, .slice (some ⟨sg.u2, 0, none⟩) c.p.bts.length c.p.bts.length], by go_simp, rfl⟩
    · refine sR_ fun sg ly act wx hl hd hW hF => ?_;have n12 := hF.notYet 10 12 hl (by kernel_rfl);have hO := hW;try dsimp only at hO
      simp only [hl, n12, Bool.false_eq_true, if_false, if_true] at hO;refine ⟨_, wx.alloc (.cells #[.slice none 0 0, .slice none 0 0] 42), { sg with b1 := wx.heap.size }, by go_simp, ?_, rfl, ?_⟩
      · have hN := hO.newB 4 rfl (.cells #[.slice none 0 0, .slice none 0 0] 42);simpa [upd, n12] using hN
      · intro i u hi h;have i10 : i ≠ 10 := by rintro rfl; rw [hl] at hi; cases hi
        have i12 : i ≠ 12 := by rintro rfl; rw [n12] at hi; cases hi
        unfold Lx4V at h ⊢;split at h <;> first | exact h | exact absurd rfl i10 | exact absurd rfl i12
    · refine sR_ fun sg ly act wx hl hd hW hF => ?_;have n13 := hF.notYet 11 13 hl (by kernel_rfl);have hO := hW;try dsimp only at hO
      simp only [hl, n13, Bool.false_eq_true, if_false, if_true] at hO;refine ⟨_, wx.alloc (.cells #[.slice none 0 0, .slice none 0 0] 42), { sg with b2 := wx.heap.size }, by go_simp, ?_, rfl, ?_⟩
      · have hN := hO.newB 5 rfl (.cells #[.slice none 0 0, .slice none 0 0] 42);simpa [upd, n13] using hN
      · intro i u hi h;have i11 : i ≠ 11 := by rintro rfl; rw [hl] at hi; cases hi
        have i13 : i ≠ 13 := by rintro rfl; rw [n13] at hi; cases hi
        unfold Lx4V at h ⊢;split at h <;> first | exact h | exact absurd rfl i11 | exact absurd rfl i13
    · refine sS_ rfl fun sg ly act wx hl hd hW hF => ?_;simp [Region.binds] at hd;have et17 := hF.new 10 17 (by simp [hd]) rfl;simp [Lx4V, Act.eval] at et17;have et57 := hF.new 4 57 (by simp [hd]) rfl;simp [Lx4V, Act.eval] at et57;have y3 : ly 3 = true := by simp [hd]
      have y10 : ly 10 = true := by simp [hd]
      have hO := hW;try dsimp only at hO
      simp only [hl, y3, y10, Bool.false_eq_true, if_false, if_true] at hO;have hh := hO.heap 4 rfl;have clq0 := (cOH hh 0).trans rfl;have flq0 := fOH hh 0;have clq1 := (cOH hh 1).trans rfl;have flq1 := fOH hh 1;have zz := hL_ hh;refine ⟨((wx.setCell ⟨sg.b1, 0, none⟩ (.slice none 0 0)).setCell ⟨sg.b1, 1, none⟩ (.slice (some ⟨sg.u1, 0, none⟩) c.p.bts.length c.p.bts.length)), sg, .skip, by go_simp, .inl rfl, ?_, fun _ _ _ h => h⟩;have hN := hO.set 4 rfl (((Keep.refl _ _).setCell (.inl (by simp)) (.slice none 0 0)).setCell (.inl (by simp)) (.slice (some ⟨sg.u1, 0, none⟩) c.p.bts.length c.p.bts.length)) (hS_ (hS_ (hh) 0 (.slice none 0 0)) 1 (.slice (some ⟨sg.u1, 0, none⟩) c.p.bts.length c.p.bts.length));simpa [upd, y3, y10, hl] using hN
    · refine sS_ rfl fun sg ly act wx hl hd hW hF => ?_;simp [Region.binds] at hd;have et18 := hF.new 11 18 (by simp [hd]) rfl;simp [Lx4V, Act.eval] at et18;have et62 := hF.new 9 62 (by simp [hd]) rfl;simp [Lx4V, Act.eval] at et62;have y8 : ly 8 = true := by simp [hd]
      have y11 : ly 11 = true := by simp [hd]
      have hO := hW;try dsimp only at hO
      simp only [hl, y8, y11, Bool.false_eq_true, if_false, if_true] at hO;have hh := hO.heap 5 rfl;have clq0 := (cOH hh 0).trans rfl;have flq0 := fOH hh 0;have clq1 := (cOH hh 1).trans rfl;have flq1 := fOH hh 1;have zz := hL_ hh;refine ⟨((wx.setCell ⟨sg.b2, 0, none⟩ (.slice none 0 0)).setCell ⟨sg.b2, 1, none⟩ (.slice (some ⟨sg.u2, 0, none⟩) c.p.bts.length c.p.bts.length)), sg, .skip, by go_simp, .inl rfl, ?_, fun _ _ _ h => h⟩;have hN := hO.set 5 rfl (((Keep.refl _ _).setCell (.inl (by simp)) (.slice none 0 0)).setCell (.inl (by simp)) (.slice (some ⟨sg.u2, 0, none⟩) c.p.bts.length c.p.bts.length)) (hS_ (hS_ (hh) 0 (.slice none 0 0)) 1 (.slice (some ⟨sg.u2, 0, none⟩) c.p.bts.length c.p.bts.length));simpa [upd, y8, y11, hl] using hN
  intro sg af w5 hWW hF;have e17 := hF.new 10 17 (by decide) rfl;have e18 := hF.new 11 18 (by decide) rfl;obtain ⟨ff, hf, rfl⟩ := hF.lit;obtain ⟨su, tu, sb, tb⟩ := sg;rw [← hf] at e17 e18;simp only [Lx4V] at e17 e18;have O5 : Own X2.heap.size X2 [It.nx ib dl, It.nx jb el, if (fun j => decide (j < List.length (_ : List Oper))) 3 = true then It.own 4 1 (some ⟨(L4S.mk su tu sb tb).u1, 0, none⟩) c.p.bts.length c.p.bts.length (bools (noB c.p)) [(L4S.mk su tu sb tb).u1] else noIt, if (fun j => decide (j < List.length (_ : List Oper))) 8 = true then It.own 4 1 (some ⟨(L4S.mk su tu sb tb).u2, 0, none⟩) c.p.bts.length c.p.bts.length (bools (noB c.p)) [(L4S.mk su tu sb tb).u2] else noIt, if (fun j => decide (j < List.length (_ : List Oper))) 10 = true then It.blk (L4S.mk su tu sb tb).b1 (.cells (if (fun j => decide (j < List.length (_ : List Oper))) 12 = true then #[.slice none 0 0, .slice (some ⟨(L4S.mk su tu sb tb).u1, 0, none⟩) c.p.bts.length c.p.bts.length] else #[.slice none 0 0, .slice none 0 0]) 42) else noIt, if (fun j => decide (j < List.length (_ : List Oper))) 11 = true then It.blk (L4S.mk su tu sb tb).b2 (.cells (if (fun j => decide (j < List.length (_ : List Oper))) 13 = true then #[.slice none 0 0, .slice (some ⟨(L4S.mk su tu sb tb).u2, 0, none⟩) c.p.bts.length c.p.bts.length] else #[.slice none 0 0, .slice none 0 0]) 42) else noIt] w5 := hWW;simp only [List.length_cons, List.length_nil, Nat.reduceAdd, Nat.reduceLT, decide_true, if_true] at O5;have OB := (O5.new (i := .own 3 1 none 0 0 (ints []) []) (Below.refl _ _) (OwnS.nil _ _ _) (by simp [It.fp])).new (i := .own 3 1 none 0 0 (ints []) []) (Below.refl _ _) (OwnS.nil _ _ _) (by simp [It.fp]);have HOB := Lib.hid OB;clear hWW hF hf O5 OB;simp only [List.filterMap, List.foldl, List.setIfInBounds_toArray, List.set_cons_succ, List.set_cons_zero, e17, e18];clear e17 e18;obtain ⟨q0, q1, q2, q3, q4, q5, zp, zl⟩ := (HC.out.1.below HOB.out.bel).cells
  go_upto_block 0 with fail
  clear q0 q1 q2 q3 q4 q5 zp zl
  go_cut [19] from 66 to 86 (fun v wx => ∃ (s t : StC), s.b.length = c.p.chs.length ∧ (∀ x ∈ s.b, 0 ≤ x ∧ x < 200) ∧ (∀ x ∈ t.b, 0 ≤ x ∧ x < 200) ∧ LeB t.b s.b ∧ (sb = s.sb ∧ tb = t.sb) ∧ Own X2.heap.size X2 [It.nx ib dl, It.nx jb el, It.own 4 1 (some ⟨s.ub, 0, none⟩) c.p.bts.length c.p.bts.length (bools (noB c.p)) [s.ub], It.own 4 1 (some ⟨t.ub, 0, none⟩) c.p.bts.length c.p.bts.length (bools (noB c.p)) [t.ub], It.blk s.sb (stO c s), It.blk t.sb (stO c t), It.own 3 1 (some ⟨s.gb, 0, none⟩) s.b.length s.cr (ints s.b) [s.gb], It.own 3 1 (some ⟨t.gb, 0, none⟩) t.b.length t.cr (ints t.b) [t.gb]] wx)
  case first =>
    go_wp2_with fail
    go_loopg [66] c.p.chs.length (fun g i wx => ∃ (k : Nat) (bs bt : List Int) (As At : Option Addr) (cs ct : Nat) (qs qt : List Nat), g + k = c.p.chs.length ∧ i = .int .i64 k ∧ bs.length = k ∧ (∀ x ∈ bs, 0 ≤ x ∧ x < 200) ∧ (∀ x ∈ bt, 0 ≤ x ∧ x < 200) ∧ LeB bt bs ∧ Own X2.heap.size X2 [It.nx ib dl, It.nx jb el, It.own 4 1 (some ⟨su, 0, none⟩) c.p.bts.length c.p.bts.length (bools (noB c.p)) [su], It.own 4 1 (some ⟨tu, 0, none⟩) c.p.bts.length c.p.bts.length (bools (noB c.p)) [tu], It.blk sb (.cells #[.slice As k cs, .slice (some ⟨su, 0, none⟩) c.p.bts.length c.p.bts.length] 42), It.blk tb (.cells #[.slice At k ct, .slice (some ⟨tu, 0, none⟩) c.p.bts.length c.p.bts.length] 42), It.own 3 1 As k cs (ints bs) qs, It.own 3 1 At k ct (ints bt) qt] wx)
    case atStart => exact ⟨0, [], [], none, none, 0, 0, [], [], rfl, rfl, rfl, by simp, by simp, LeB.refl _, HOB.out⟩
    case round =>
      obtain ⟨k, bs, bt, As, At, cs, ct, qs, qt, hk, rfl, hbl, hb1, hb2, hle, hO⟩ := hrel;have HO := Lib.hid hO;have HL := Lib.hid (And.intro hbl (And.intro hb1 (And.intro hb2 hle)));clear hO hbl hb1 hb2 hle;by_cases hlt : k < c.p.chs.length
      · skip
        go_wp2_with fail
        refine (next_some 120 (HO.out.nxt 0 rfl) (by decide)).mono ?_;rintro e v0 ⟨x0, rfl, ⟨x01, x02⟩, nx3, k3, s3⟩;have HO1 := Lib.hid (HO.out.next 0 rfl nx3 k3);clear nx3 k3 s3;obtain ⟨n, hn⟩ : ∃ n, n = x0 := ⟨_, rfl⟩;have hn120 : 0 ≤ n ∧ n < 120 := by omega
        go_upto_region 8 with fail
        rw [← hn];clear hn x01 x02;refine wRS (σ := L8S) (by kernel_rfl) (by kernel_rfl) (fun sg jx vx _ => Lx8V jb el sb tb k cs ct As At n sg jx vx) (fun sg ly wx => Own X2.heap.size X2 [It.nx ib dl, It.nx jb el, It.own 4 1 (some ⟨su, 0, none⟩) c.p.bts.length c.p.bts.length (bools (noB c.p)) [su], It.own 4 1 (some ⟨tu, 0, none⟩) c.p.bts.length c.p.bts.length (bools (noB c.p)) [tu], It.blk sb (.cells (if ly 15 = true then #[.slice sg.A1 (k + 1) sg.c1, .slice (some ⟨su, 0, none⟩) c.p.bts.length c.p.bts.length] else #[.slice As k cs, .slice (some ⟨su, 0, none⟩) c.p.bts.length c.p.bts.length]) 42), It.blk tb (.cells (if ly 17 = true then #[.slice sg.A2 (k + 1) sg.c2, .slice (some ⟨tu, 0, none⟩) c.p.bts.length c.p.bts.length] else #[.slice At k ct, .slice (some ⟨tu, 0, none⟩) c.p.bts.length c.p.bts.length]) 42), if ly 4 = true then It.own 3 1 sg.A1 (k + 1) sg.c1 (ints bs ++ [.int .i64 (n)]) sg.q1 else It.own 3 1 As k cs (ints bs) qs, if ly 13 = true then It.own 3 1 sg.A2 (k + 1) sg.c2 (ints bt ++ [.int .i64 (max 0 (n - sg.x))]) sg.q2 else It.own 3 1 At k ct (ints bt) qt, if ly 3 = true then It.blk sg.s1 (.cells #[.int .i64 n] 3) else noIt, if ly 12 = true then It.blk sg.s2 (.cells #[.int .i64 (max 0 (n - sg.x))] 3) else noIt, if ly 9 = true then It.gen [] (fun _ => 0 ≤ sg.x ∧ sg.x < 30) else noIt] wx) ⟨0, 0, 0, none, 0, [], none, 0, []⟩ ?_ ?_ ?_
        · exact HO1.out.blank.blank.blank.drew
        · simp only [AllFrom, Nat.zero_add, Nat.reduceAdd];refine ⟨?_, ?_, ?_, ?_, ?_, ?_, ?_, ?_, ?_, ?_, ?_, ?_, ?_, ?_, ?_, ?_, ?_, ?_, trivial⟩
          · refine sP_ fun sg ly act wx hl hd hW hF => ?_;have et17 := hF.old 17 (by kernel_rfl);simp [Act.eval] at et17;exact ⟨hW, .pointer (some ⟨sb, 0, none⟩), by go_simp, rfl⟩
          · refine sP_ fun sg ly act wx hl hd hW hF => ?_;simp [Region.binds] at hd;have et70 := hF.new 0 70 (by simp [hd]) rfl;simp [Lx8V, Act.eval] at et70;have hO := hW;try dsimp only at hO
            have n15 := hF.notYet 1 15 hl (by kernel_rfl);simp only [n15, Bool.false_eq_true, if_false, if_true] at hO;have hh := hO.heap 4 rfl;have clq0 := (cOH hh 0).trans rfl;have clq1 := (cOH hh 1).trans rfl;have zz := hL_ hh;exact ⟨hW, .slice As k cs, by go_simp, rfl⟩
          · refine sP_ fun sg ly act wx hl hd hW hF => ?_;have et19 := hF.old 19 (by kernel_rfl);simp [Act.eval] at et19;exact ⟨hW, .int .i64 n, by go_simp, rfl⟩
          · refine sR_ fun sg ly act wx hl hd hW hF => ?_;simp [Region.binds] at hd;have et72 := hF.new 2 72 (by simp [hd]) rfl;simp [Lx8V, Act.eval] at et72;have n4 := hF.notYet 3 4 hl (by kernel_rfl);have hO := hW;try dsimp only at hO
            simp only [hl, n4, Bool.false_eq_true, if_false, if_true] at hO;refine ⟨_, wx.alloc (.cells #[.int .i64 (n)] 3), { sg with s1 := wx.heap.size }, by go_simp, ?_, rfl, ?_⟩
            · have hN := hO.newB 8 rfl (.cells #[.int .i64 (n)] 3);simpa [upd, n4] using hN
            · intro i u hi h;have i3 : i ≠ 3 := by rintro rfl; rw [hl] at hi; cases hi
              have i4 : i ≠ 4 := by rintro rfl; rw [n4] at hi; cases hi
              unfold Lx8V at h ⊢;split at h <;> first | exact h | exact absurd rfl i3 | exact absurd rfl i4
          · intro sg ly act wx hl hd hW hF;simp [Region.binds] at hd;have et71 := hF.new 1 71 (by simp [hd]) rfl;simp [Lx8V, Act.eval] at et71;have et73 := hF.new 3 73 (by simp [hd]) rfl;simp [Lx8V, Act.eval] at et73;have n15 := hF.notYet 4 15 hl (by kernel_rfl);have y3 : ly 3 = true := by simp [hd]
            have hO := hW;try dsimp only at hO
            simp only [hl, n15, y3, Bool.false_eq_true, if_false, if_true] at hO;have hbs := hO.heap 8 rfl;refine wp_append_S (.tmp 71) (.tmp 73) 33 rfl iI _ 8 Try.underlying33 hI0 hI1 hI2 (show (0 : Nat) < 1 from by decide) hI3 rfl (by simpa [Act.eval] using et71) ⟨sg.s1, 0, none⟩ (by simpa [Act.eval] using et73) [.int .i64 (n)] (hO.owns 6 rfl) rfl (fun j v hj => by rw [show (⟨sg.s1, 0, none⟩ : Addr).add j = ⟨sg.s1, j, none⟩ from by simp [Addr.add]; omega]; exact (cOH hbs j).trans (by simpa using hj)) (by simp [Value.oneCell']) (by omega) (by decide) ?_;intro g c' w' o1 o2 o3 o4;have hN := hO.upd 6 rfl o4 (i' := .own 3 1 (some ⟨g, 0, none⟩) (k + 1) c' (ints bs ++ [.int .i64 (n)]) [g]) (by exact o1) (fun x hx => by rw [List.mem_singleton.1 hx]; rcases o2 with e | e; exact .inl e; exact .inr (Nat.le_of_eq e));refine ⟨{ sg with A1 := some ⟨g, 0, none⟩, c1 := c', q1 := [g] }, .slice (some ⟨g, 0, none⟩) (k + 1) c', rfl, ?_, fun _ => rfl, ?_⟩
            · simpa [upd, n15, y3] using hN
            · intro i u hi h;have i4 : i ≠ 4 := by rintro rfl; rw [hl] at hi; cases hi
              have i15 : i ≠ 15 := by rintro rfl; rw [n15] at hi; cases hi
              unfold Lx8V at h ⊢;split at h <;> first | exact h | exact absurd rfl i4 | exact absurd rfl i15
          · refine sP_ fun sg ly act wx hl hd hW hF => ?_;have et18 := hF.old 18 (by kernel_rfl);simp [Act.eval] at et18;exact ⟨hW, .pointer (some ⟨tb, 0, none⟩), by go_simp, rfl⟩
          · refine sP_ fun sg ly act wx hl hd hW hF => ?_;simp [Region.binds] at hd;have et75 := hF.new 5 75 (by simp [hd]) rfl;simp [Lx8V, Act.eval] at et75;have hO := hW;try dsimp only at hO
            have n17 := hF.notYet 6 17 hl (by kernel_rfl);simp only [n17, Bool.false_eq_true, if_false, if_true] at hO;have hh := hO.heap 5 rfl;have clq0 := (cOH hh 0).trans rfl;have clq1 := (cOH hh 1).trans rfl;have zz := hL_ hh;exact ⟨hW, .slice At k ct, by go_simp, rfl⟩
          · refine sP_ fun sg ly act wx hl hd hW hF => ?_;have et19 := hF.old 19 (by kernel_rfl);simp [Act.eval] at et19;exact ⟨hW, .int .i64 n, by go_simp, rfl⟩
          · refine sP_ fun sg ly act wx hl hd hW hF => ?_;have et16 := hF.old 16 (by kernel_rfl);simp [Act.eval] at et16;exact ⟨hW, .func (.func 70) #[] #[.pointer (some ⟨jb, 0, none⟩), .pointer (some ⟨el, 0, none⟩)], by go_simp, rfl⟩
          · refine sC_ fun sg ly act wx hl hd hW hF => ?_;simp [Region.binds] at hd;have et78 := hF.new 8 78 (by simp [hd]) rfl;simp [Lx8V, Act.eval] at et78;have n10 := hF.notYet 9 10 hl (by kernel_rfl);have n11_10 := hF.notYet 9 10 hl (by kernel_rfl);have n11 := hF.notYet 10 11 n11_10 (by kernel_rfl);have n12_10 := hF.notYet 9 10 hl (by kernel_rfl);have n12_11 := hF.notYet 10 11 n12_10 (by kernel_rfl);have n12 := hF.notYet 11 12 n12_11 (by kernel_rfl);have n13 := hF.notYet 9 13 hl (by kernel_rfl);have hO := hW;try dsimp only at hO
            simp only [hl, n10, n11, n12, n13, Bool.false_eq_true, if_false, if_true] at hO;refine ⟨70, #[.int .i64 (30), .pointer (some ⟨jb, 0, none⟩), .pointer (some ⟨el, 0, none⟩)], by go_simp, ?_⟩;refine (next_some (30) (hO.nxt 1 rfl) (by decide)).mono ?_;rintro e w2 ⟨x, rfl, hx, nx3, k3, s3⟩;have hN := (hO.next 1 rfl nx3 k3).newG 10 rfl (q := []) (P := fun _ => 0 ≤ x ∧ x < 30) (Below.refl _ _) ⟨by simp, fun _ _ _ _ => hx⟩ (by simp);refine ⟨.int .i64 x, { sg with x := x }, rfl, ?_, rfl, ?_⟩
            · simpa [upd, n10, n11, n12, n13] using hN
            · intro i u hi h;have i9 : i ≠ 9 := by rintro rfl; rw [hl] at hi; cases hi
              have i10 : i ≠ 10 := by rintro rfl; rw [n10] at hi; cases hi
              have i11 : i ≠ 11 := by rintro rfl; rw [n11] at hi; cases hi
              have i12 : i ≠ 12 := by rintro rfl; rw [n12] at hi; cases hi
              have i13 : i ≠ 13 := by rintro rfl; rw [n13] at hi; cases hi
              unfold Lx8V at h ⊢;split at h <;> first | exact h | exact absurd rfl i9 | exact absurd rfl i10 | exact absurd rfl i11 | exact absurd rfl i12 | exact absurd rfl i13
          · refine sP_ fun sg ly act wx hl hd hW hF => ?_;simp [Region.binds] at hd;have et77 := hF.new 7 77 (by simp [hd]) rfl;simp [Lx8V, Act.eval] at et77;have et79 := hF.new 9 79 (by simp [hd]) rfl;simp [Lx8V, Act.eval] at et79;have y9 : ly 9 = true := by simp [hd]
            have hO := hW;try dsimp only at hO
            simp only [y9, Bool.false_eq_true, if_false, if_true] at hO;have hbx : 0 ≤ sg.x ∧ sg.x < 30 := hO.thing 10 rfl;have ew := IntWalk.i64_in (n - sg.x) (by omega);exact ⟨hW, .int .i64 (n - sg.x), by go_simp, rfl⟩
          · refine sP_ fun sg ly act wx hl hd hW hF => ?_;simp [Region.binds] at hd;have et80 := hF.new 10 80 (by simp [hd]) rfl;simp [Lx8V, Act.eval] at et80;exact ⟨hW, .int .i64 (max 0 (n - sg.x)), by go_simp, rfl⟩
          · refine sR_ fun sg ly act wx hl hd hW hF => ?_;simp [Region.binds] at hd;have et81 := hF.new 11 81 (by simp [hd]) rfl;simp [Lx8V, Act.eval] at et81;have n13 := hF.notYet 12 13 hl (by kernel_rfl);have y9_10 := hF.before 10 11 (by simp [hd]) (by kernel_rfl);have y9 := hF.before 9 10 y9_10 (by kernel_rfl);have hO := hW;try dsimp only at hO
            simp only [hl, n13, y9, Bool.false_eq_true, if_false, if_true] at hO;refine ⟨_, wx.alloc (.cells #[.int .i64 (max 0 (n - sg.x))] 3), { sg with s2 := wx.heap.size }, by go_simp, ?_, rfl, ?_⟩
            · have hN := hO.newB 9 rfl (.cells #[.int .i64 (max 0 (n - sg.x))] 3);simpa [upd, n13, y9] using hN
            · intro i u hi h;have i12 : i ≠ 12 := by rintro rfl; rw [hl] at hi; cases hi
              have i13 : i ≠ 13 := by rintro rfl; rw [n13] at hi; cases hi
              unfold Lx8V at h ⊢;split at h <;> first | exact h | exact absurd rfl i12 | exact absurd rfl i13
          · intro sg ly act wx hl hd hW hF;simp [Region.binds] at hd;have et76 := hF.new 6 76 (by simp [hd]) rfl;simp [Lx8V, Act.eval] at et76;have et82 := hF.new 12 82 (by simp [hd]) rfl;simp [Lx8V, Act.eval] at et82;have n17 := hF.notYet 13 17 hl (by kernel_rfl);have y12 : ly 12 = true := by simp [hd]
            have hO := hW;try dsimp only at hO
            simp only [hl, n17, y12, Bool.false_eq_true, if_false, if_true] at hO;have hbs := hO.heap 9 rfl;refine wp_append_S (.tmp 76) (.tmp 82) 33 rfl iI _ 8 Try.underlying33 hI0 hI1 hI2 (show (0 : Nat) < 1 from by decide) hI3 rfl (by simpa [Act.eval] using et76) ⟨sg.s2, 0, none⟩ (by simpa [Act.eval] using et82) [.int .i64 (max 0 (n - sg.x))] (hO.owns 7 rfl) rfl (fun j v hj => by rw [show (⟨sg.s2, 0, none⟩ : Addr).add j = ⟨sg.s2, j, none⟩ from by simp [Addr.add]; omega]; exact (cOH hbs j).trans (by simpa using hj)) (by simp [Value.oneCell']) (by omega) (by decide) ?_;intro g c' w' o1 o2 o3 o4;have hN := hO.upd 7 rfl o4 (i' := .own 3 1 (some ⟨g, 0, none⟩) (k + 1) c' (ints bt ++ [.int .i64 (max 0 (n - sg.x))]) [g]) (by exact o1) (fun x hx => by rw [List.mem_singleton.1 hx]; rcases o2 with e | e; exact .inl e; exact .inr (Nat.le_of_eq e));refine ⟨{ sg with A2 := some ⟨g, 0, none⟩, c2 := c', q2 := [g] }, .slice (some ⟨g, 0, none⟩) (k + 1) c', rfl, ?_, fun _ => rfl, ?_⟩
            · simpa [upd, n17, y12] using hN
            · intro i u hi h;have i13 : i ≠ 13 := by rintro rfl; rw [hl] at hi; cases hi
              have i17 : i ≠ 17 := by rintro rfl; rw [n17] at hi; cases hi
              unfold Lx8V at h ⊢;split at h <;> first | exact h | exact absurd rfl i13 | exact absurd rfl i17
          · refine sP_ fun sg ly act wx hl hd hW hF => ?_;have et17 := hF.old 17 (by kernel_rfl);simp [Act.eval] at et17;exact ⟨hW, .pointer (some ⟨sb, 0, none⟩), by go_simp, rfl⟩
          · refine sS_ rfl fun sg ly act wx hl hd hW hF => ?_;simp [Region.binds] at hd;have et84 := hF.new 14 84 (by simp [hd]) rfl;simp [Lx8V, Act.eval] at et84;have et74 := hF.new 4 74 (by simp [hd]) rfl;simp [Lx8V, Act.eval] at et74;have y4 : ly 4 = true := by simp [hd]
            have hO := hW;try dsimp only at hO
            simp only [hl, y4, Bool.false_eq_true, if_false, if_true] at hO;have hh := hO.heap 4 rfl;have clq0 := (cOH hh 0).trans rfl;have flq0 := fOH hh 0;have clq1 := (cOH hh 1).trans rfl;have flq1 := fOH hh 1;have zz := hL_ hh;refine ⟨(wx.setCell ⟨sb, 0, none⟩ (.slice sg.A1 (k + 1) sg.c1)), sg, .skip, by go_simp, .inl rfl, ?_, fun _ _ _ h => h⟩;have hN := hO.set 4 rfl ((Keep.refl _ _).setCell (.inl (by simp)) (.slice sg.A1 (k + 1) sg.c1)) (hS_ (hh) 0 (.slice sg.A1 (k + 1) sg.c1));simpa [upd, y4, hl] using hN
          · refine sP_ fun sg ly act wx hl hd hW hF => ?_;have et18 := hF.old 18 (by kernel_rfl);simp [Act.eval] at et18;exact ⟨hW, .pointer (some ⟨tb, 0, none⟩), by go_simp, rfl⟩
          · refine sS_ rfl fun sg ly act wx hl hd hW hF => ?_;simp [Region.binds] at hd;have et85 := hF.new 16 85 (by simp [hd]) rfl;simp [Lx8V, Act.eval] at et85;have et83 := hF.new 13 83 (by simp [hd]) rfl;simp [Lx8V, Act.eval] at et83;have y13 : ly 13 = true := by simp [hd]
            have hO := hW;try dsimp only at hO
            simp only [hl, y13, Bool.false_eq_true, if_false, if_true] at hO;have hh := hO.heap 5 rfl;have clq0 := (cOH hh 0).trans rfl;have flq0 := fOH hh 0;have clq1 := (cOH hh 1).trans rfl;have flq1 := fOH hh 1;have zz := hL_ hh;refine ⟨(wx.setCell ⟨tb, 0, none⟩ (.slice sg.A2 (k + 1) sg.c2)), sg, .skip, by go_simp, .inl rfl, ?_, fun _ _ _ h => h⟩;have hN := hO.set 5 rfl ((Keep.refl _ _).setCell (.inl (by simp)) (.slice sg.A2 (k + 1) sg.c2)) (hS_ (hh) 0 (.slice sg.A2 (k + 1) sg.c2));simpa [upd, y13, hl] using hN
        intro sg af w8 hWW hF;obtain ⟨ff, hf, rfl⟩ := hF.lit;obtain ⟨x, s1, s2, A1', c1', q1', A2', c2', q2'⟩ := sg;have O8 : Own X2.heap.size X2 [It.nx ib dl, It.nx jb el, It.own 4 1 (some ⟨su, 0, none⟩) c.p.bts.length c.p.bts.length (bools (noB c.p)) [su], It.own 4 1 (some ⟨tu, 0, none⟩) c.p.bts.length c.p.bts.length (bools (noB c.p)) [tu], It.blk sb (.cells (if (fun j => decide (j < List.length (_ : List Oper))) 15 = true then #[.slice (L8S.mk x s1 s2 A1' c1' q1' A2' c2' q2').A1 (k + 1) (L8S.mk x s1 s2 A1' c1' q1' A2' c2' q2').c1, .slice (some ⟨su, 0, none⟩) c.p.bts.length c.p.bts.length] else #[.slice As k cs, .slice (some ⟨su, 0, none⟩) c.p.bts.length c.p.bts.length]) 42), It.blk tb (.cells (if (fun j => decide (j < List.length (_ : List Oper))) 17 = true then #[.slice (L8S.mk x s1 s2 A1' c1' q1' A2' c2' q2').A2 (k + 1) (L8S.mk x s1 s2 A1' c1' q1' A2' c2' q2').c2, .slice (some ⟨tu, 0, none⟩) c.p.bts.length c.p.bts.length] else #[.slice At k ct, .slice (some ⟨tu, 0, none⟩) c.p.bts.length c.p.bts.length]) 42), if (fun j => decide (j < List.length (_ : List Oper))) 4 = true then It.own 3 1 (L8S.mk x s1 s2 A1' c1' q1' A2' c2' q2').A1 (k + 1) (L8S.mk x s1 s2 A1' c1' q1' A2' c2' q2').c1 (ints bs ++ [.int .i64 (n)]) (L8S.mk x s1 s2 A1' c1' q1' A2' c2' q2').q1 else It.own 3 1 As k cs (ints bs) qs, if (fun j => decide (j < List.length (_ : List Oper))) 13 = true then It.own 3 1 (L8S.mk x s1 s2 A1' c1' q1' A2' c2' q2').A2 (k + 1) (L8S.mk x s1 s2 A1' c1' q1' A2' c2' q2').c2 (ints bt ++ [.int .i64 (max 0 (n - (L8S.mk x s1 s2 A1' c1' q1' A2' c2' q2').x))]) (L8S.mk x s1 s2 A1' c1' q1' A2' c2' q2').q2 else It.own 3 1 At k ct (ints bt) qt, if (fun j => decide (j < List.length (_ : List Oper))) 3 = true then It.blk (L8S.mk x s1 s2 A1' c1' q1' A2' c2' q2').s1 (.cells #[.int .i64 n] 3) else noIt, if (fun j => decide (j < List.length (_ : List Oper))) 12 = true then It.blk (L8S.mk x s1 s2 A1' c1' q1' A2' c2' q2').s2 (.cells #[.int .i64 (max 0 (n - (L8S.mk x s1 s2 A1' c1' q1' A2' c2' q2').x))] 3) else noIt, if (fun j => decide (j < List.length (_ : List Oper))) 9 = true then It.gen [] (fun _ => 0 ≤ (L8S.mk x s1 s2 A1' c1' q1' A2' c2' q2').x ∧ (L8S.mk x s1 s2 A1' c1' q1' A2' c2' q2').x < 30) else noIt] w8 := hWW
        simp only [List.length_cons, List.length_nil, Nat.reduceAdd, Nat.reduceLT, decide_true, if_true] at O8;have hx : 0 ≤ x ∧ x < 30 := O8.thing 10 rfl;obtain ⟨m, hm⟩ : ∃ m, m = max 0 (n - x) := ⟨_, rfl⟩;have hm1 : 0 ≤ m ∧ m ≤ n := by omega
        simp only [← hm, ints_snoc] at O8;have H8 := Lib.hid (O8.take 8);clear hWW hF hf O8 hx hm;simp only [List.filterMap, List.foldl, List.setIfInBounds_toArray, List.set_cons_succ, List.set_cons_zero];go_wp2_with fail
        go_roundg (gk - 1);case measure => omega
        case rel =>
          refine ⟨k + 1, bs ++ [n], bt ++ [m], A1', A2', c1', c2', q1', q2', by omega, by go_num, by rw [List.length_append, HL.out.1]; rfl, ?_, ?_, leB_snoc HL.out.2.2.2 hm1.2, H8.out⟩
          · intro y hy;rcases List.mem_append.1 hy with e | e
            · exact HL.out.2.1 y e
            · rw [List.mem_singleton.1 e]; omega
          · intro y hy;rcases List.mem_append.1 hy with e | e
            · exact HL.out.2.2.1 y e
            · rw [List.mem_singleton.1 e]; omega
      · obtain rfl : c.p.chs.length = k := by omega
        obtain ⟨gs, e1, e2, _⟩ := (HO.out.owns 6 rfl).some_ (by omega);obtain ⟨gt, e3, e4, _⟩ := (HO.out.owns 7 rfl).some_ (by omega);subst e1 e2 e3 e4;have hbl := HL.out.1;have hbm := HL.out.2.2.2.1;have hres : ∃ (s t : StC), s.b.length = c.p.chs.length ∧ (∀ x ∈ s.b, 0 ≤ x ∧ x < 200) ∧ (∀ x ∈ t.b, 0 ≤ x ∧ x < 200) ∧ LeB t.b s.b ∧ (sb = s.sb ∧ tb = t.sb) ∧ Own X2.heap.size X2 [It.nx ib dl, It.nx jb el, It.own 4 1 (some ⟨s.ub, 0, none⟩) c.p.bts.length c.p.bts.length (bools (noB c.p)) [s.ub], It.own 4 1 (some ⟨t.ub, 0, none⟩) c.p.bts.length c.p.bts.length (bools (noB c.p)) [t.ub], It.blk s.sb (stO c s), It.blk t.sb (stO c t), It.own 3 1 (some ⟨s.gb, 0, none⟩) s.b.length s.cr (ints s.b) [s.gb], It.own 3 1 (some ⟨t.gb, 0, none⟩) t.b.length t.cr (ints t.b) [t.gb]] wr := by
          refine ⟨⟨sb, gs, cs, su, bs⟩, ⟨tb, gt, ct, tu, bt⟩, HL.out.1, HL.out.2.1, HL.out.2.2.1, HL.out.2.2.2, ⟨rfl, rfl⟩, ?_⟩;simp only [stO, hbl, hbm];exact HO.out
        have HR := Lib.hid hres;clear hbl hbm hres;go_wp2_with fail
        go_meet
        exact HR.out
  case rest =>
    obtain ⟨s, t, k1, k2, k3, k4, ⟨rfl, rfl⟩, k6⟩ := hcut;have HR := Lib.hid (And.intro k1 (And.intro k2 (And.intro k3 (And.intro k4 k6))));clear k1 k2 k3 k4 k6
    apply_assumption
    refine less_w (by have := HX5.out.1; omega) (by have := HX5.out.2; omega) HC.out.1 HC.out.2 HR.out.2.2.2.2 HMd.out.1 HMd.out.2 HR.out.1 HR.out.2.1 HR.out.2.2.1 HR.out.2.2.2.1 ?_;intro _ _ _ h;exact h
end Go.Proofs.Ythmldeningpjbaa
