/- polynyalaw09.PortMaps (printed by wip/tools/ptmaps.py) -/
import Derived.Test.YthmldeningpjbaaPMp2
import Derived.Test.YthmldeningpjbaaPMp5
import Derived.Test.YthmldeningpjbaaPMp6
import Derived.Test.YthmldeningpjbaaPMp22
import Derived.Test.YthmldeningpjbaaPMp27
import Derived.Test.YthmldeningpjbaaPMp32
import Derived.Test.YthmldeningpjbaaPMp9
set_option linter.unusedVariables false
set_option linter.unusedSimpArgs false
namespace Go.Proofs.Ythmldeningpjbaa
open Go Go.RowKit Sp Pt
set_option linter.unusedVariables false
set_option linter.unusedSimpArgs false

theorem rmap_neq (m : Mp) (w : World) : (binOp .neq 95 (.agg #[.int .i64 m.add, .int .i64 m.floor, .int .i64 m.most]) (.agg #[.int .i64 m.add, .int .i64 m.floor, .int .i64 m.most])).run Try.prog w = .ok (.bool false) w := by
  have u3 := Try.underlying3
  have a3 := Try.isAgg3
  have z3 := Try.sizeOf3
  have hS : Try.prog.underlying 95 = some (.struct (Try.prog.fieldsOf 95)) := by kernel_rfl
  have hp : Try.prog.stoodInHeld 95 = false := by kernel_rfl
  rw [run_neq_struct, show (10000 : Nat) = 9999 + 1 from rfl, run_equalIn_agg w 9999 95 _ _ hS hp]
  simp only [Program.fieldsOf, Try.underlying95]
  go_simp
theorem rmap_eql (m : Mp) (w : World) : (binOp .eql 95 (.agg #[.int .i64 m.add, .int .i64 m.floor, .int .i64 m.most]) (.agg #[.int .i64 m.add, .int .i64 m.floor, .int .i64 m.most])).run Try.prog w = .ok (.bool true) w := by
  have u3 := Try.underlying3
  have a3 := Try.isAgg3
  have z3 := Try.sizeOf3
  have hS : Try.prog.underlying 95 = some (.struct (Try.prog.fieldsOf 95)) := by kernel_rfl
  have hp : Try.prog.stoodInHeld 95 = false := by kernel_rfl
  rw [run_eql_struct, show (10000 : Nat) = 9999 + 1 from rfl, run_equalIn_agg w 9999 95 _ _ hS hp]
  simp only [Program.fieldsOf, Try.underlying95]
  go_simp
/-- what is looked at is small -/
structure Lgt (p : Prt) (l : Pln) : Prop where
  n1 : p.chs.length ≤ 10
  n2 : p.bts.length ≤ 8
  n3 : ∀ b ∈ p.bts, b.path.length ≤ 10
  n4 : l.calls.length ≤ 70
  n5 : l.swps.length ≤ 210
theorem heavy_no {p : Prt} {l : Pln} {nb nu : Nat} (h : heavyB p l nb nu = false) : Lgt p l ∧ nb ≤ 10 ∧ nu ≤ 10 := by
  simp only [heavyB, Bool.or_eq_false_iff, decide_eq_false_iff_not, Nat.not_lt, List.any_eq_false] at h
  obtain ⟨h1, h2, h3, h4, h5, h6, h7⟩ := h
  refine ⟨⟨h1, h2, fun b hb => ?_, h4, h5⟩, h6, h7⟩
  have := h3 b hb
  simp [longP] at this
  exact this
structure Cp2 where
  Ac : Option Addr
  cc : Nat
  Ab : Option Addr
  cb : Nat
  q1 : List Nat
  Al : Option Addr
  cl : Nat
  As : Option Addr
  cs : Nat
  q2 : List Nat
  xb : Nat
  yb : Nat

set_option linter.unusedVariables false
def MpkV (Ac : Option Addr) (cc : Nat) (Ab : Option Addr) (cb : Nat) (p : Prt) (Al : Option Addr) (cl : Nat) (As : Option Addr) (cs : Nat) (l : Pln) (s : Cp2) : Nat → Value → Prop
  | 0, v => v = .agg (prtV Ac cc Ab cb p)
  | 1, v => v = .agg (prtV s.Ac s.cc s.Ab s.cb p)
  | 2, v => v = .agg (plnV Al cl As cs l)
  | 3, v => v = .agg (plnV s.Al s.cl s.As s.cs l)
  | 4, v => v = .pointer (some ⟨s.xb, 0, none⟩)
  | 5, v => v = .pointer (some ⟨s.yb, 0, none⟩)
  | _, _ => True
set_option linter.unusedVariables false
def MpmV (Ac : Option Addr) (cc : Nat) (Ab : Option Addr) (cb : Nat) (p : Prt) (Al : Option Addr) (cl : Nat) (As : Option Addr) (cs : Nat) (l : Pln) (ch fe : Int) (y : Mp) (s : Cp2) : Nat → Value → Prop
  | 0, v => v = .agg (prtV Ac cc Ab cb p)
  | 1, v => v = .agg (prtV s.Ac s.cc s.Ab s.cb p)
  | 2, v => v = .agg (plnV Al cl As cs l)
  | 3, v => v = .agg (plnV s.Al s.cl s.As s.cs l)
  | 4, v => v = .int .i64 ch
  | 5, v => v = .tuple #[.agg #[.int .i64 y.add, .int .i64 y.floor, .int .i64 y.most], .int .i64 fe]
  | 6, v => v = .tuple #[.agg #[.int .i64 y.add, .int .i64 y.floor, .int .i64 y.most], .int .i64 fe]
  | 7, v => v = .agg #[.int .i64 y.add, .int .i64 y.floor, .int .i64 y.most]
  | 8, v => v = .int .i64 fe
  | 10, v => v = .int .i64 fe
  | _, _ => True
set_option linter.unusedVariables false
def MpoV (Ac : Option Addr) (cc : Nat) (Ab : Option Addr) (cb : Nat) (p : Prt) (Al : Option Addr) (cl : Nat) (As : Option Addr) (cs : Nat) (l : Pln) (Ac1 : Option Addr) (cc1 : Nat) (Ab1 : Option Addr) (cb1 : Nat) (Al1 : Option Addr) (cl1 : Nat) (As1 : Option Addr) (cs1 : Nat) (fe : Int) (y : Mp) (s : Cp2) : Nat → Value → Prop
  | 0, v => v = .agg #[.int .i64 y.add, .int .i64 y.floor, .int .i64 y.most]
  | 1, v => v = .agg #[.int .i64 y.add, .int .i64 y.floor, .int .i64 y.most]
  | 2, v => v = .bool true
  | 3, v => v = .bool true
  | 4, v => v = .int .i64 fe
  | 5, v => v = .int .i64 fe
  | 6, v => v = .bool true
  | 7, v => v = .bool true
  | 8, v => v = .bool true
  | 9, v => v = .agg (prtV Ac1 cc1 Ab1 cb1 p)
  | 10, v => v = .agg (prtV Ac cc Ab cb p)
  | 11, v => v = .agg (prtV s.Ac s.cc s.Ab s.cb p)
  | 12, v => v = .bool true
  | 13, v => v = .bool true
  | 14, v => v = .bool true
  | 15, v => v = .agg (plnV Al1 cl1 As1 cs1 l)
  | 16, v => v = .agg (plnV Al cl As cs l)
  | 17, v => v = .agg (plnV s.Al s.cl s.As s.cs l)
  | 18, v => v = .bool true
  | 19, v => v = .bool true
  | 20, v => v = .bool true
  | 21, v => v = .bool true
  | 22, v => v = .bool true
  | 23, v => v = .bool true
  | _, _ => True

set_option maxRecDepth 100000 in
set_option maxHeartbeats 4000000 in
theorem portMaps_any (Ac : Option Addr) (cc : Nat) (Ab : Option Addr) (cb : Nat) (p : Prt) (Al : Option Addr) (cl : Nat) (As : Option Addr) (cs : Nat) (l : Pln) (a b : Mp) (br ch : Int) (w : World) (PB : PrtB w.heap.size w Ac cc Ab cb p) (LB : PlnB w.heap.size w Al cl As cs l) :
    Calls Try.prog 7 #[.agg (prtV Ac cc Ab cb p), .agg (plnV Al cl As cs l), .agg #[.int .i64 a.add, .int .i64 a.floor, .int .i64 a.most], .agg #[.int .i64 b.add, .int .i64 b.floor, .int .i64 b.most], .int .i64 br, .int .i64 ch] w fun e w' => e = .returned (.bool true) ∧ Below w.heap.size w w' := by
  obtain ⟨W, hW⟩ : ∃ W, W = (((w.alloc (.cells (prtV Ac cc Ab cb p) 26)).alloc (.cells (plnV Al cl As cs l) 31)).alloc (.cells #[.int .i64 a.add, .int .i64 a.floor, .int .i64 a.most] 59)).alloc (.cells #[.int .i64 b.add, .int .i64 b.floor, .int .i64 b.most] 59) := ⟨_, rfl⟩
  obtain ⟨pb, hpb⟩ : ∃ b, b = w.heap.size := ⟨_, rfl⟩
  obtain ⟨lb, hlb⟩ : ∃ b, b = w.heap.size + 1 := ⟨_, rfl⟩
  obtain ⟨ab, hab⟩ : ∃ b, b = w.heap.size + 1 + 1 := ⟨_, rfl⟩
  obtain ⟨bb, hbb⟩ : ∃ b, b = w.heap.size + 1 + 1 + 1 := ⟨_, rfl⟩
  have O0 : Own w.heap.size w [It.blk pb (.cells (prtV Ac cc Ab cb p) 26), It.blk lb (.cells (plnV Al cl As cs l) 31), It.blk ab (.cells #[.int .i64 a.add, .int .i64 a.floor, .int .i64 a.most] 59), It.blk bb (.cells #[.int .i64 b.add, .int .i64 b.floor, .int .i64 b.most] 59)] W := by
    have h := ((((Own.start w).alloc (.cells (prtV Ac cc Ab cb p) 26)).alloc (.cells (plnV Al cl As cs l) 31)).alloc (.cells #[.int .i64 a.add, .int .i64 a.floor, .int .i64 a.most] 59)).alloc (.cells #[.int .i64 b.add, .int .i64 b.floor, .int .i64 b.most] 59)
    rw [hW, hpb, hlb, hab, hbb]
    simpa using h
  have cellsAt : ∀ L wx, Own w.heap.size w ([It.blk pb (.cells (prtV Ac cc Ab cb p) 26), It.blk lb (.cells (plnV Al cl As cs l) 31), It.blk ab (.cells #[.int .i64 a.add, .int .i64 a.floor, .int .i64 a.most] 59), It.blk bb (.cells #[.int .i64 b.add, .int .i64 b.floor, .int .i64 b.most] 59)] ++ L) wx → (wx.cell? ⟨pb, 0, none⟩ = some (.slice Ac p.chs.length cc) ∧ wx.cell? ⟨pb, 1, none⟩ = some (.slice Ab p.bts.length cb) ∧ wx.cell? ⟨pb, 2, none⟩ = some (.int .i64 p.tugs) ∧ wx.cell? ⟨lb, 0, none⟩ = some (.int .i64 l.hours) ∧ wx.cell? ⟨lb, 1, none⟩ = some (.slice Al l.calls.length cl) ∧ wx.cell? ⟨lb, 2, none⟩ = some (.slice As l.swps.length cs) ∧
      wx.cell? ⟨ab, 0, none⟩ = some (.int .i64 a.add) ∧ wx.cell? ⟨ab, 1, none⟩ = some (.int .i64 a.floor) ∧ wx.cell? ⟨ab, 2, none⟩ = some (.int .i64 a.most) ∧ wx.cell? ⟨bb, 0, none⟩ = some (.int .i64 b.add) ∧ wx.cell? ⟨bb, 1, none⟩ = some (.int .i64 b.floor) ∧ wx.cell? ⟨bb, 2, none⟩ = some (.int .i64 b.most) ∧ pb < wx.heap.size ∧ lb < wx.heap.size ∧ ab < wx.heap.size ∧ bb < wx.heap.size) := fun L wx O => by
    have h0 := O.heap 0 rfl
    have h1 := O.heap 1 rfl
    have h2 := O.heap 2 rfl
    have h3 := O.heap 3 rfl
    exact ⟨(cell_of_heap h0 0).trans rfl, (cell_of_heap h0 1).trans rfl, (cell_of_heap h0 2).trans rfl, (cell_of_heap h1 0).trans rfl, (cell_of_heap h1 1).trans rfl, (cell_of_heap h1 2).trans rfl, (cell_of_heap h2 0).trans rfl, (cell_of_heap h2 1).trans rfl, (cell_of_heap h2 2).trans rfl, (cell_of_heap h3 0).trans rfl, (cell_of_heap h3 1).trans rfl, (cell_of_heap h3 2).trans rfl, heap_lt h0, heap_lt h1, heap_lt h2, heap_lt h3⟩
  obtain ⟨c0, c1, c2, c3, c4, c5, c6, c7, c8, c9, c10, c11, z0, z1, z2, z3⟩ := cellsAt [] W O0
  obtain ⟨hv, hhv⟩ : ∃ hv, hv = heavyB p l 0 0 := ⟨_, rfl⟩
  have kh : Calls Try.prog 30 #[.agg (prtV Ac cc Ab cb p), .agg (plnV Al cl As cs l), .agg #[.slice none 0 0, .slice none 0 0]] W fun e w' => e = .returned (.bool hv) ∧ Below W.heap.size W w' := by rw [hhv]; exact heavy_any w.heap.size Ac cc Ab cb p Al cl As cs l none 0 0 none 0 0 W (PB.below O0.bel) O0.lo
  have H0 := Lib.hid (And.intro O0 (And.intro hhv (And.intro kh (And.intro PB (And.intro LB cellsAt)))))
  clear O0 hhv kh PB LB cellsAt
  go_enter Try.func7, Try.ntmps7
  go_upto_region 1 with fail
  rw [← hW, ← hbb, ← hab, ← hlb, ← hpb]
  clear hW hbb hab hlb hpb
  cases hv
  · have hlg := (heavy_no H0.out.2.1.symm).1
    have HL := Lib.hid hlg
    clear hlg
    go_upto_region 3 with (go_at_call 30; refine H0.out.2.2.1.mono ?_; rintro e w1 ⟨rfl, hb⟩; have H1 := Lib.hid (H0.out.1.below hb); clear hb)
    clear c0 c1 c2 c3 c4 c5 c6 c7 c8 c9 c10 c11 z0 z1 z2 z3
    obtain ⟨c0, c1, c2, c3, c4, c5, c6, c7, c8, c9, c10, c11, z0, z1, z2, z3⟩ := H0.out.2.2.2.2.2 [] w1 H1.out
    obtain ⟨n0, hn0⟩ : ∃ n, n = applyN a br := ⟨_, rfl⟩
    obtain ⟨e0, he0⟩ : ∃ n, n = applyE a br := ⟨_, rfl⟩
    obtain ⟨x, hx⟩ : ∃ x, x = joinV a b := ⟨_, rfl⟩
    obtain ⟨e1, he1⟩ : ∃ n, n = joinE a b := ⟨_, rfl⟩
    have k1 : ∀ wx, Calls Try.prog 26 #[.agg #[.int .i64 a.add, .int .i64 a.floor, .int .i64 a.most], .int .i64 br] wx fun e w' => e = .returned (.tuple #[.int .i64 n0, .int .i64 e0]) ∧ Below wx.heap.size wx w' := fun wx => by rw [hn0, he0]; exact Apply_any a br wx
    have k2 : ∀ wx, Calls Try.prog 43 #[.agg #[.int .i64 a.add, .int .i64 a.floor, .int .i64 a.most], .int .i64 br] wx fun e w' => e = .returned (.tuple #[.int .i64 n0, .int .i64 e0]) ∧ Below wx.heap.size wx w' := fun wx => by rw [hn0, he0]; exact rapply_any a br wx
    have k3 : ∀ wx, Calls Try.prog 25 #[.agg #[.int .i64 a.add, .int .i64 a.floor, .int .i64 a.most], .agg #[.int .i64 b.add, .int .i64 b.floor, .int .i64 b.most]] wx fun e w' => e = .returned (.tuple #[.agg #[.int .i64 x.add, .int .i64 x.floor, .int .i64 x.most], .int .i64 e1]) ∧ Below wx.heap.size wx w' := fun wx => by rw [hx, he1]; exact Join_any a b wx
    have k4 : ∀ wx, Calls Try.prog 44 #[.agg #[.int .i64 a.add, .int .i64 a.floor, .int .i64 a.most], .agg #[.int .i64 b.add, .int .i64 b.floor, .int .i64 b.most]] wx fun e w' => e = .returned (.tuple #[.agg #[.int .i64 x.add, .int .i64 x.floor, .int .i64 x.most], .int .i64 e1]) ∧ Below wx.heap.size wx w' := fun wx => by rw [hx, he1]; exact rJoin_any a b wx
    have q0 : (n0 != n0) = false := by simp
    have q1 : (e0 != e0) = false := by simp
    have q2 : (e1 != e1) = false := by simp
    have hneq := rmap_neq x
    have HK := Lib.hid (And.intro k1 (And.intro k2 (And.intro k3 k4)))
    clear hn0 he0 hx he1 k1 k2 k3 k4
    go_upto_region 5 with (first | (go_at_call 26; refine (HK.out.1 _).mono ?_; rintro e w2 ⟨rfl, hb⟩; have H2 := Lib.hid (H1.out.below hb); clear hb; obtain ⟨d0, d1, d2, d3, d4, d5, d6, d7, d8, d9, d10, d11, y0, y1, y2, y3⟩ := H0.out.2.2.2.2.2 [] w2 H2.out) | (go_at_call 43; refine (HK.out.2.1 _).mono ?_; rintro e w3 ⟨rfl, hb⟩; have H3 := Lib.hid (H2.out.below hb); clear hb c0 c1 c2 c3 c4 c5 c6 c7 c8 c9 c10 c11 z0 z1 z2 z3 d0 d1 d2 d3 d4 d5 d6 d7 d8 d9 d10 d11 y0 y1 y2 y3))
    obtain ⟨c0, c1, c2, c3, c4, c5, c6, c7, c8, c9, c10, c11, z0, z1, z2, z3⟩ := H0.out.2.2.2.2.2 [] w3 H3.out
    go_upto_region 8 with (go_at_call 25; refine (HK.out.2.2.1 _).mono ?_; rintro e w4 ⟨rfl, hb⟩; have H4 := Lib.hid (H3.out.below hb); clear hb c0 c1 c2 c3 c4 c5 c6 c7 c8 c9 c10 c11 z0 z1 z2 z3)
    obtain ⟨w5, hw5⟩ : ∃ X, X = w4.alloc (.cells #[.int .i64 x.add, .int .i64 x.floor, .int .i64 x.most] 59) := ⟨_, rfl⟩
    obtain ⟨jb, hjb⟩ : ∃ b, b = w4.heap.size := ⟨_, rfl⟩
    have O5 : Own w.heap.size w [It.blk pb (.cells (prtV Ac cc Ab cb p) 26), It.blk lb (.cells (plnV Al cl As cs l) 31), It.blk ab (.cells #[.int .i64 a.add, .int .i64 a.floor, .int .i64 a.most] 59), It.blk bb (.cells #[.int .i64 b.add, .int .i64 b.floor, .int .i64 b.most] 59), It.blk jb (.cells #[.int .i64 x.add, .int .i64 x.floor, .int .i64 x.most] 59)] w5 := by have h := H4.out.alloc (.cells #[.int .i64 x.add, .int .i64 x.floor, .int .i64 x.most] 59); rw [hw5, hjb]; simpa using h
    rw [← hw5, ← hjb]
    clear hw5 hjb
    obtain ⟨c0, c1, c2, c3, c4, c5, c6, c7, c8, c9, c10, c11, z0, z1, z2, z3⟩ := H0.out.2.2.2.2.2 [It.blk jb (.cells #[.int .i64 x.add, .int .i64 x.floor, .int .i64 x.most] 59)] w5 O5
    have H5 := Lib.hid O5
    clear O5
    go_upto_region 9 with (go_at_call 44; refine (HK.out.2.2.2 _).mono ?_; rintro e w6 ⟨rfl, hb⟩; have H6 := Lib.hid (H5.out.below hb); clear hb c0 c1 c2 c3 c4 c5 c6 c7 c8 c9 c10 c11 z0 z1 z2 z3)
    obtain ⟨w7, hw7⟩ : ∃ X, X = w6.alloc (.cells #[.int .i64 x.add, .int .i64 x.floor, .int .i64 x.most] 95) := ⟨_, rfl⟩
    obtain ⟨kb, hkb⟩ : ∃ b, b = w6.heap.size := ⟨_, rfl⟩
    have O7 : Own w.heap.size w [It.blk pb (.cells (prtV Ac cc Ab cb p) 26), It.blk lb (.cells (plnV Al cl As cs l) 31), It.blk ab (.cells #[.int .i64 a.add, .int .i64 a.floor, .int .i64 a.most] 59), It.blk bb (.cells #[.int .i64 b.add, .int .i64 b.floor, .int .i64 b.most] 59), It.blk jb (.cells #[.int .i64 x.add, .int .i64 x.floor, .int .i64 x.most] 59), It.blk kb (.cells #[.int .i64 x.add, .int .i64 x.floor, .int .i64 x.most] 95)] w7 := by have h := H6.out.alloc (.cells #[.int .i64 x.add, .int .i64 x.floor, .int .i64 x.most] 95); rw [hw7, hkb]; simpa using h
    rw [← hw7, ← hkb]
    clear hw7 hkb
    have j0 := (cell_of_heap (O7.heap 4 rfl) 0).trans rfl
    have j1 := (cell_of_heap (O7.heap 4 rfl) 1).trans rfl
    have j2 := (cell_of_heap (O7.heap 4 rfl) 2).trans rfl
    have i0 := (cell_of_heap (O7.heap 5 rfl) 0).trans rfl
    have i1 := (cell_of_heap (O7.heap 5 rfl) 1).trans rfl
    have i2 := (cell_of_heap (O7.heap 5 rfl) 2).trans rfl
    have zj := heap_lt (O7.heap 4 rfl)
    have zk := heap_lt (O7.heap 5 rfl)
    have H9 := Lib.hid O7
    clear O7
    go_upto_region 11 with fail
    clear j0 j1 j2 i0 i1 i2 zj zk
    obtain ⟨-, -, -, PB, LB, -⟩ := H0.out
    have kcp : ∀ wx, Below w.heap.size w wx → Calls Try.prog 31 #[.agg (prtV Ac cc Ab cb p)] wx (NewPrt wx p) := fun wx hb => copyPort_any w.heap.size Ac cc Ab cb p wx (PB.below hb) hb.size (by have := HL.out.n1; omega) (by have := HL.out.n2; omega) (fun x hx => by have := HL.out.n3 x hx; omega)
    have kcl : ∀ wx, Below w.heap.size w wx → Calls Try.prog 33 #[.agg (plnV Al cl As cs l)] wx (NewPln wx l) := fun wx hb => copyPlan_any w.heap.size Al cl As cs l wx (LB.below hb) hb.size (by have := HL.out.n4; omega) (by have := HL.out.n5; omega)
    have kp : ∀ wx, Below w.heap.size w wx → Calls Try.prog 34 #[.agg (prtV Ac cc Ab cb p)] wx (NewPrt wx p) := fun wx hb => portR_any Ac cc Ab cb p wx ((PB.below hb).mono hb.size) (by have := HL.out.n1; omega) (by have := HL.out.n2; omega) (fun x hx => by have := HL.out.n3 x hx; omega)
    have kl : ∀ wx, Below w.heap.size w wx → Calls Try.prog 35 #[.agg (plnV Al cl As cs l)] wx (NewPln wx l) := fun wx hb => planR_any Al cl As cs l wx ((LB.below hb).mono hb.size) (by have := HL.out.n4; omega) (by have := HL.out.n5; omega)
    have HC := Lib.hid (And.intro kcp (And.intro kcl (And.intro kp kl)))
    clear PB LB kcp kcl kp kl
    refine wp_region_steps (σ := Cp2) (by kernel_rfl) (by kernel_rfl) (fun sg jx vx _ => MpkV Ac cc Ab cb p Al cl As cs l sg jx vx) (fun sg ly wx => Own w.heap.size w [It.blk pb (.cells (prtV Ac cc Ab cb p) 26), It.blk lb (.cells (plnV Al cl As cs l) 31), It.blk ab (.cells #[.int .i64 a.add, .int .i64 a.floor, .int .i64 a.most] 59), It.blk bb (.cells #[.int .i64 b.add, .int .i64 b.floor, .int .i64 b.most] 59), It.blk jb (.cells #[.int .i64 x.add, .int .i64 x.floor, .int .i64 x.most] 59), It.blk kb (.cells #[.int .i64 x.add, .int .i64 x.floor, .int .i64 x.most] 95), if ly 1 = true then It.gen sg.q1 (PrtH sg.Ac sg.cc sg.Ab sg.cb p) else noIt, if ly 3 = true then It.gen sg.q2 (PlnH sg.Al sg.cl sg.As sg.cs l) else noIt, if ly 4 = true then It.blk sg.xb (.cells (if ly 6 = true then prtV sg.Ac sg.cc sg.Ab sg.cb p else #[.slice none 0 0, .slice none 0 0, .int .i64 0]) 26) else noIt, if ly 5 = true then It.blk sg.yb (.cells (if ly 7 = true then plnV sg.Al sg.cl sg.As sg.cs l else #[.int .i64 0, .slice none 0 0, .slice none 0 0]) 31) else noIt] wx) ⟨none, 0, none, 0, [], none, 0, none, 0, [], 0, 0⟩ ?_ ?_ ?_
    · exact H9.out.blank.blank.blank.blank.drew
    · simp only [AllFrom, Nat.zero_add, Nat.reduceAdd]
      refine ⟨?_, ?_, ?_, ?_, ?_, ?_, ?_, ?_, trivial⟩
      · refine step_pure fun sg ly act wx hl hd hW hF => ?_
        have et6 := hF.old 6 (by kernel_rfl)
        simp [Act.eval] at et6
        have hO : Own w.heap.size w [It.blk pb (.cells (prtV Ac cc Ab cb p) 26), It.blk lb (.cells (plnV Al cl As cs l) 31), It.blk ab (.cells #[.int .i64 a.add, .int .i64 a.floor, .int .i64 a.most] 59), It.blk bb (.cells #[.int .i64 b.add, .int .i64 b.floor, .int .i64 b.most] 59), It.blk jb (.cells #[.int .i64 x.add, .int .i64 x.floor, .int .i64 x.most] 59), It.blk kb (.cells #[.int .i64 x.add, .int .i64 x.floor, .int .i64 x.most] 95), if ly 1 = true then It.gen sg.q1 (PrtH sg.Ac sg.cc sg.Ab sg.cb p) else noIt, if ly 3 = true then It.gen sg.q2 (PlnH sg.Al sg.cl sg.As sg.cs l) else noIt, if ly 4 = true then It.blk sg.xb (.cells (if ly 6 = true then prtV sg.Ac sg.cc sg.Ab sg.cb p else #[.slice none 0 0, .slice none 0 0, .int .i64 0]) 26) else noIt, if ly 5 = true then It.blk sg.yb (.cells (if ly 7 = true then plnV sg.Al sg.cl sg.As sg.cs l else #[.int .i64 0, .slice none 0 0, .slice none 0 0]) 31) else noIt] wx := hW
        have hh := hO.heap 0 rfl
        have clq0 := (cell_of_heap hh 0).trans rfl
        have clq1 := (cell_of_heap hh 1).trans rfl
        have clq2 := (cell_of_heap hh 2).trans rfl
        have zz := heap_lt hh
        exact ⟨hW, .agg (prtV Ac cc Ab cb p), by go_simp, rfl⟩
      · refine step_call fun sg ly act wx hl hd hW hF => ?_
        simp [Region.binds] at hd
        have et66 := hF.new 0 66 (by simp [hd]) rfl
        simp [MpkV, Act.eval] at et66
        have n6 := hF.notYet 1 6 hl (by kernel_rfl)
        have hO : Own w.heap.size w [It.blk pb (.cells (prtV Ac cc Ab cb p) 26), It.blk lb (.cells (plnV Al cl As cs l) 31), It.blk ab (.cells #[.int .i64 a.add, .int .i64 a.floor, .int .i64 a.most] 59), It.blk bb (.cells #[.int .i64 b.add, .int .i64 b.floor, .int .i64 b.most] 59), It.blk jb (.cells #[.int .i64 x.add, .int .i64 x.floor, .int .i64 x.most] 59), It.blk kb (.cells #[.int .i64 x.add, .int .i64 x.floor, .int .i64 x.most] 95), if ly 1 = true then It.gen sg.q1 (PrtH sg.Ac sg.cc sg.Ab sg.cb p) else noIt, if ly 3 = true then It.gen sg.q2 (PlnH sg.Al sg.cl sg.As sg.cs l) else noIt, if ly 4 = true then It.blk sg.xb (.cells (if ly 6 = true then prtV sg.Ac sg.cc sg.Ab sg.cb p else #[.slice none 0 0, .slice none 0 0, .int .i64 0]) 26) else noIt, if ly 5 = true then It.blk sg.yb (.cells (if ly 7 = true then plnV sg.Al sg.cl sg.As sg.cs l else #[.int .i64 0, .slice none 0 0, .slice none 0 0]) 31) else noIt] wx := hW
        simp only [hl, n6, Bool.false_eq_true, if_false, if_true] at hO
        refine ⟨31, #[.agg (prtV Ac cc Ab cb p)], by go_simp, ?_⟩
        refine (HC.out.1 wx hO.bel).mono ?_
        rintro e w2 ⟨A', c', B', d', q', rfl, h1, h2, h3⟩
        have hN := hO.newG 6 rfl h3 (h1 _) h2
        refine ⟨_, { sg with Ac := A', cc := c', Ab := B', cb := d', q1 := q' }, rfl, ?_, rfl, ?_⟩
        · simpa [upd, n6] using hN
        · intro i u hi h
          have i1 : i ≠ 1 := by rintro rfl; rw [hl] at hi; cases hi
          have i6 : i ≠ 6 := by rintro rfl; rw [n6] at hi; cases hi
          unfold MpkV at h ⊢
          split at h <;> first | exact h | exact absurd rfl i1 | exact absurd rfl i6
      · refine step_pure fun sg ly act wx hl hd hW hF => ?_
        have et7 := hF.old 7 (by kernel_rfl)
        simp [Act.eval] at et7
        have hO : Own w.heap.size w [It.blk pb (.cells (prtV Ac cc Ab cb p) 26), It.blk lb (.cells (plnV Al cl As cs l) 31), It.blk ab (.cells #[.int .i64 a.add, .int .i64 a.floor, .int .i64 a.most] 59), It.blk bb (.cells #[.int .i64 b.add, .int .i64 b.floor, .int .i64 b.most] 59), It.blk jb (.cells #[.int .i64 x.add, .int .i64 x.floor, .int .i64 x.most] 59), It.blk kb (.cells #[.int .i64 x.add, .int .i64 x.floor, .int .i64 x.most] 95), if ly 1 = true then It.gen sg.q1 (PrtH sg.Ac sg.cc sg.Ab sg.cb p) else noIt, if ly 3 = true then It.gen sg.q2 (PlnH sg.Al sg.cl sg.As sg.cs l) else noIt, if ly 4 = true then It.blk sg.xb (.cells (if ly 6 = true then prtV sg.Ac sg.cc sg.Ab sg.cb p else #[.slice none 0 0, .slice none 0 0, .int .i64 0]) 26) else noIt, if ly 5 = true then It.blk sg.yb (.cells (if ly 7 = true then plnV sg.Al sg.cl sg.As sg.cs l else #[.int .i64 0, .slice none 0 0, .slice none 0 0]) 31) else noIt] wx := hW
        have hh := hO.heap 1 rfl
        have clq0 := (cell_of_heap hh 0).trans rfl
        have clq1 := (cell_of_heap hh 1).trans rfl
        have clq2 := (cell_of_heap hh 2).trans rfl
        have zz := heap_lt hh
        exact ⟨hW, .agg (plnV Al cl As cs l), by go_simp, rfl⟩
      · refine step_call fun sg ly act wx hl hd hW hF => ?_
        simp [Region.binds] at hd
        have et68 := hF.new 2 68 (by simp [hd]) rfl
        simp [MpkV, Act.eval] at et68
        have n6 := hF.notYet 3 6 hl (by kernel_rfl)
        have n7 := hF.notYet 3 7 hl (by kernel_rfl)
        have hO : Own w.heap.size w [It.blk pb (.cells (prtV Ac cc Ab cb p) 26), It.blk lb (.cells (plnV Al cl As cs l) 31), It.blk ab (.cells #[.int .i64 a.add, .int .i64 a.floor, .int .i64 a.most] 59), It.blk bb (.cells #[.int .i64 b.add, .int .i64 b.floor, .int .i64 b.most] 59), It.blk jb (.cells #[.int .i64 x.add, .int .i64 x.floor, .int .i64 x.most] 59), It.blk kb (.cells #[.int .i64 x.add, .int .i64 x.floor, .int .i64 x.most] 95), if ly 1 = true then It.gen sg.q1 (PrtH sg.Ac sg.cc sg.Ab sg.cb p) else noIt, if ly 3 = true then It.gen sg.q2 (PlnH sg.Al sg.cl sg.As sg.cs l) else noIt, if ly 4 = true then It.blk sg.xb (.cells (if ly 6 = true then prtV sg.Ac sg.cc sg.Ab sg.cb p else #[.slice none 0 0, .slice none 0 0, .int .i64 0]) 26) else noIt, if ly 5 = true then It.blk sg.yb (.cells (if ly 7 = true then plnV sg.Al sg.cl sg.As sg.cs l else #[.int .i64 0, .slice none 0 0, .slice none 0 0]) 31) else noIt] wx := hW
        simp only [hl, n6, n7, Bool.false_eq_true, if_false, if_true] at hO
        refine ⟨33, #[.agg (plnV Al cl As cs l)], by go_simp, ?_⟩
        refine (HC.out.2.1 wx hO.bel).mono ?_
        rintro e w2 ⟨A', c', B', d', q', rfl, h1, h2, h3⟩
        have hN := hO.newG 7 rfl h3 (h1 _) h2
        refine ⟨_, { sg with Al := A', cl := c', As := B', cs := d', q2 := q' }, rfl, ?_, rfl, ?_⟩
        · simpa [upd, n6, n7] using hN
        · intro i u hi h
          have i3 : i ≠ 3 := by rintro rfl; rw [hl] at hi; cases hi
          have i6 : i ≠ 6 := by rintro rfl; rw [n6] at hi; cases hi
          have i7 : i ≠ 7 := by rintro rfl; rw [n7] at hi; cases hi
          unfold MpkV at h ⊢
          split at h <;> first | exact h | exact absurd rfl i3 | exact absurd rfl i6 | exact absurd rfl i7
      · refine step_run fun sg ly act wx hl hd hW hF => ?_
        have n6 := hF.notYet 4 6 hl (by kernel_rfl)
        have hO : Own w.heap.size w [It.blk pb (.cells (prtV Ac cc Ab cb p) 26), It.blk lb (.cells (plnV Al cl As cs l) 31), It.blk ab (.cells #[.int .i64 a.add, .int .i64 a.floor, .int .i64 a.most] 59), It.blk bb (.cells #[.int .i64 b.add, .int .i64 b.floor, .int .i64 b.most] 59), It.blk jb (.cells #[.int .i64 x.add, .int .i64 x.floor, .int .i64 x.most] 59), It.blk kb (.cells #[.int .i64 x.add, .int .i64 x.floor, .int .i64 x.most] 95), if ly 1 = true then It.gen sg.q1 (PrtH sg.Ac sg.cc sg.Ab sg.cb p) else noIt, if ly 3 = true then It.gen sg.q2 (PlnH sg.Al sg.cl sg.As sg.cs l) else noIt, if ly 4 = true then It.blk sg.xb (.cells (if ly 6 = true then prtV sg.Ac sg.cc sg.Ab sg.cb p else #[.slice none 0 0, .slice none 0 0, .int .i64 0]) 26) else noIt, if ly 5 = true then It.blk sg.yb (.cells (if ly 7 = true then plnV sg.Al sg.cl sg.As sg.cs l else #[.int .i64 0, .slice none 0 0, .slice none 0 0]) 31) else noIt] wx := hW
        simp only [hl, n6, Bool.false_eq_true, if_false, if_true] at hO
        refine ⟨_, wx.alloc (.cells #[.slice none 0 0, .slice none 0 0, .int .i64 0] 26), { sg with xb := wx.heap.size }, by go_simp, ?_, rfl, ?_⟩
        · have hN := hO.newB 8 rfl (.cells #[.slice none 0 0, .slice none 0 0, .int .i64 0] 26)
          simpa [upd, n6] using hN
        · intro i u hi h
          have i4 : i ≠ 4 := by rintro rfl; rw [hl] at hi; cases hi
          unfold MpkV at h ⊢
          split at h <;> first | exact h | exact absurd rfl i4
      · refine step_run fun sg ly act wx hl hd hW hF => ?_
        have n7 := hF.notYet 5 7 hl (by kernel_rfl)
        have hO : Own w.heap.size w [It.blk pb (.cells (prtV Ac cc Ab cb p) 26), It.blk lb (.cells (plnV Al cl As cs l) 31), It.blk ab (.cells #[.int .i64 a.add, .int .i64 a.floor, .int .i64 a.most] 59), It.blk bb (.cells #[.int .i64 b.add, .int .i64 b.floor, .int .i64 b.most] 59), It.blk jb (.cells #[.int .i64 x.add, .int .i64 x.floor, .int .i64 x.most] 59), It.blk kb (.cells #[.int .i64 x.add, .int .i64 x.floor, .int .i64 x.most] 95), if ly 1 = true then It.gen sg.q1 (PrtH sg.Ac sg.cc sg.Ab sg.cb p) else noIt, if ly 3 = true then It.gen sg.q2 (PlnH sg.Al sg.cl sg.As sg.cs l) else noIt, if ly 4 = true then It.blk sg.xb (.cells (if ly 6 = true then prtV sg.Ac sg.cc sg.Ab sg.cb p else #[.slice none 0 0, .slice none 0 0, .int .i64 0]) 26) else noIt, if ly 5 = true then It.blk sg.yb (.cells (if ly 7 = true then plnV sg.Al sg.cl sg.As sg.cs l else #[.int .i64 0, .slice none 0 0, .slice none 0 0]) 31) else noIt] wx := hW
        simp only [hl, n7, Bool.false_eq_true, if_false, if_true] at hO
        refine ⟨_, wx.alloc (.cells #[.int .i64 0, .slice none 0 0, .slice none 0 0] 31), { sg with yb := wx.heap.size }, by go_simp, ?_, rfl, ?_⟩
        · have hN := hO.newB 9 rfl (.cells #[.int .i64 0, .slice none 0 0, .slice none 0 0] 31)
          simpa [upd, n7] using hN
        · intro i u hi h
          have i5 : i ≠ 5 := by rintro rfl; rw [hl] at hi; cases hi
          unfold MpkV at h ⊢
          split at h <;> first | exact h | exact absurd rfl i5
      · refine step_store rfl fun sg ly act wx hl hd hW hF => ?_
        simp [Region.binds] at hd
        have et19 := hF.new 4 19 (by simp [hd]) rfl
        simp [MpkV, Act.eval] at et19
        have et67 := hF.new 1 67 (by simp [hd]) rfl
        simp [MpkV, Act.eval] at et67
        have y1 : ly 1 = true := by simp [hd]
        have y4 : ly 4 = true := by simp [hd]
        have hO : Own w.heap.size w [It.blk pb (.cells (prtV Ac cc Ab cb p) 26), It.blk lb (.cells (plnV Al cl As cs l) 31), It.blk ab (.cells #[.int .i64 a.add, .int .i64 a.floor, .int .i64 a.most] 59), It.blk bb (.cells #[.int .i64 b.add, .int .i64 b.floor, .int .i64 b.most] 59), It.blk jb (.cells #[.int .i64 x.add, .int .i64 x.floor, .int .i64 x.most] 59), It.blk kb (.cells #[.int .i64 x.add, .int .i64 x.floor, .int .i64 x.most] 95), if ly 1 = true then It.gen sg.q1 (PrtH sg.Ac sg.cc sg.Ab sg.cb p) else noIt, if ly 3 = true then It.gen sg.q2 (PlnH sg.Al sg.cl sg.As sg.cs l) else noIt, if ly 4 = true then It.blk sg.xb (.cells (if ly 6 = true then prtV sg.Ac sg.cc sg.Ab sg.cb p else #[.slice none 0 0, .slice none 0 0, .int .i64 0]) 26) else noIt, if ly 5 = true then It.blk sg.yb (.cells (if ly 7 = true then plnV sg.Al sg.cl sg.As sg.cs l else #[.int .i64 0, .slice none 0 0, .slice none 0 0]) 31) else noIt] wx := hW
        simp only [hl, y1, y4, Bool.false_eq_true, if_false, if_true] at hO
        have hh := hO.heap 8 rfl
        have clq0 := (cell_of_heap hh 0).trans rfl
        have flq0 := frozen_of_heap hh 0
        have clq1 := (cell_of_heap hh 1).trans rfl
        have flq1 := frozen_of_heap hh 1
        have clq2 := (cell_of_heap hh 2).trans rfl
        have flq2 := frozen_of_heap hh 2
        have zz := heap_lt hh
        refine ⟨(((wx.setCell ⟨sg.xb, 0, none⟩ (.slice sg.Ac p.chs.length sg.cc)).setCell ⟨sg.xb, 1, none⟩ (.slice sg.Ab p.bts.length sg.cb)).setCell ⟨sg.xb, 2, none⟩ (.int .i64 p.tugs)), sg, .skip, by go_simp, .inl rfl, ?_, fun _ _ _ h => h⟩
        have hN := hO.set 8 rfl ((((Keep.refl _ _).setCell (.inl (by simp)) (.slice sg.Ac p.chs.length sg.cc)).setCell (.inl (by simp)) (.slice sg.Ab p.bts.length sg.cb)).setCell (.inl (by simp)) (.int .i64 p.tugs)) (heap_set (heap_set (heap_set (hh) 0 (.slice sg.Ac p.chs.length sg.cc)) 1 (.slice sg.Ab p.bts.length sg.cb)) 2 (.int .i64 p.tugs))
        simpa [upd, y1, y4, hl] using hN
      · refine step_store rfl fun sg ly act wx hl hd hW hF => ?_
        simp [Region.binds] at hd
        have et20 := hF.new 5 20 (by simp [hd]) rfl
        simp [MpkV, Act.eval] at et20
        have et69 := hF.new 3 69 (by simp [hd]) rfl
        simp [MpkV, Act.eval] at et69
        have y3 : ly 3 = true := by simp [hd]
        have y5 : ly 5 = true := by simp [hd]
        have hO : Own w.heap.size w [It.blk pb (.cells (prtV Ac cc Ab cb p) 26), It.blk lb (.cells (plnV Al cl As cs l) 31), It.blk ab (.cells #[.int .i64 a.add, .int .i64 a.floor, .int .i64 a.most] 59), It.blk bb (.cells #[.int .i64 b.add, .int .i64 b.floor, .int .i64 b.most] 59), It.blk jb (.cells #[.int .i64 x.add, .int .i64 x.floor, .int .i64 x.most] 59), It.blk kb (.cells #[.int .i64 x.add, .int .i64 x.floor, .int .i64 x.most] 95), if ly 1 = true then It.gen sg.q1 (PrtH sg.Ac sg.cc sg.Ab sg.cb p) else noIt, if ly 3 = true then It.gen sg.q2 (PlnH sg.Al sg.cl sg.As sg.cs l) else noIt, if ly 4 = true then It.blk sg.xb (.cells (if ly 6 = true then prtV sg.Ac sg.cc sg.Ab sg.cb p else #[.slice none 0 0, .slice none 0 0, .int .i64 0]) 26) else noIt, if ly 5 = true then It.blk sg.yb (.cells (if ly 7 = true then plnV sg.Al sg.cl sg.As sg.cs l else #[.int .i64 0, .slice none 0 0, .slice none 0 0]) 31) else noIt] wx := hW
        simp only [hl, y3, y5, Bool.false_eq_true, if_false, if_true] at hO
        have hh := hO.heap 9 rfl
        have clq0 := (cell_of_heap hh 0).trans rfl
        have flq0 := frozen_of_heap hh 0
        have clq1 := (cell_of_heap hh 1).trans rfl
        have flq1 := frozen_of_heap hh 1
        have clq2 := (cell_of_heap hh 2).trans rfl
        have flq2 := frozen_of_heap hh 2
        have zz := heap_lt hh
        refine ⟨(((wx.setCell ⟨sg.yb, 0, none⟩ (.int .i64 l.hours)).setCell ⟨sg.yb, 1, none⟩ (.slice sg.Al l.calls.length sg.cl)).setCell ⟨sg.yb, 2, none⟩ (.slice sg.As l.swps.length sg.cs)), sg, .skip, by go_simp, .inl rfl, ?_, fun _ _ _ h => h⟩
        have hN := hO.set 9 rfl ((((Keep.refl _ _).setCell (.inl (by simp)) (.int .i64 l.hours)).setCell (.inl (by simp)) (.slice sg.Al l.calls.length sg.cl)).setCell (.inl (by simp)) (.slice sg.As l.swps.length sg.cs)) (heap_set (heap_set (heap_set (hh) 0 (.int .i64 l.hours)) 1 (.slice sg.Al l.calls.length sg.cl)) 2 (.slice sg.As l.swps.length sg.cs))
        simpa [upd, y3, y5, hl] using hN
    intro sg af w8 hWW hF
    obtain ⟨ff, hf, rfl⟩ := hF.lit
    obtain ⟨Ac1, cc1, Ab1, cb1, q1, Al1, cl1, As1, cs1, q2, xb, yb⟩ := sg
    have e19 := hF.new 4 19 (by decide) rfl
    have e20 := hF.new 5 20 (by decide) rfl
    rw [← hf] at e19 e20
    simp only [MpkV] at e19 e20
    have O8 : Own w.heap.size w [It.blk pb (.cells (prtV Ac cc Ab cb p) 26), It.blk lb (.cells (plnV Al cl As cs l) 31), It.blk ab (.cells #[.int .i64 a.add, .int .i64 a.floor, .int .i64 a.most] 59), It.blk bb (.cells #[.int .i64 b.add, .int .i64 b.floor, .int .i64 b.most] 59), It.blk jb (.cells #[.int .i64 x.add, .int .i64 x.floor, .int .i64 x.most] 59), It.blk kb (.cells #[.int .i64 x.add, .int .i64 x.floor, .int .i64 x.most] 95), if (fun j => decide (j < List.length (_ : List Oper))) 1 = true then It.gen (Cp2.mk Ac1 cc1 Ab1 cb1 q1 Al1 cl1 As1 cs1 q2 xb yb).q1 (PrtH (Cp2.mk Ac1 cc1 Ab1 cb1 q1 Al1 cl1 As1 cs1 q2 xb yb).Ac (Cp2.mk Ac1 cc1 Ab1 cb1 q1 Al1 cl1 As1 cs1 q2 xb yb).cc (Cp2.mk Ac1 cc1 Ab1 cb1 q1 Al1 cl1 As1 cs1 q2 xb yb).Ab (Cp2.mk Ac1 cc1 Ab1 cb1 q1 Al1 cl1 As1 cs1 q2 xb yb).cb p) else noIt, if (fun j => decide (j < List.length (_ : List Oper))) 3 = true then It.gen (Cp2.mk Ac1 cc1 Ab1 cb1 q1 Al1 cl1 As1 cs1 q2 xb yb).q2 (PlnH (Cp2.mk Ac1 cc1 Ab1 cb1 q1 Al1 cl1 As1 cs1 q2 xb yb).Al (Cp2.mk Ac1 cc1 Ab1 cb1 q1 Al1 cl1 As1 cs1 q2 xb yb).cl (Cp2.mk Ac1 cc1 Ab1 cb1 q1 Al1 cl1 As1 cs1 q2 xb yb).As (Cp2.mk Ac1 cc1 Ab1 cb1 q1 Al1 cl1 As1 cs1 q2 xb yb).cs l) else noIt, if (fun j => decide (j < List.length (_ : List Oper))) 4 = true then It.blk (Cp2.mk Ac1 cc1 Ab1 cb1 q1 Al1 cl1 As1 cs1 q2 xb yb).xb (.cells (if (fun j => decide (j < List.length (_ : List Oper))) 6 = true then prtV (Cp2.mk Ac1 cc1 Ab1 cb1 q1 Al1 cl1 As1 cs1 q2 xb yb).Ac (Cp2.mk Ac1 cc1 Ab1 cb1 q1 Al1 cl1 As1 cs1 q2 xb yb).cc (Cp2.mk Ac1 cc1 Ab1 cb1 q1 Al1 cl1 As1 cs1 q2 xb yb).Ab (Cp2.mk Ac1 cc1 Ab1 cb1 q1 Al1 cl1 As1 cs1 q2 xb yb).cb p else #[.slice none 0 0, .slice none 0 0, .int .i64 0]) 26) else noIt, if (fun j => decide (j < List.length (_ : List Oper))) 5 = true then It.blk (Cp2.mk Ac1 cc1 Ab1 cb1 q1 Al1 cl1 As1 cs1 q2 xb yb).yb (.cells (if (fun j => decide (j < List.length (_ : List Oper))) 7 = true then plnV (Cp2.mk Ac1 cc1 Ab1 cb1 q1 Al1 cl1 As1 cs1 q2 xb yb).Al (Cp2.mk Ac1 cc1 Ab1 cb1 q1 Al1 cl1 As1 cs1 q2 xb yb).cl (Cp2.mk Ac1 cc1 Ab1 cb1 q1 Al1 cl1 As1 cs1 q2 xb yb).As (Cp2.mk Ac1 cc1 Ab1 cb1 q1 Al1 cl1 As1 cs1 q2 xb yb).cs l else #[.int .i64 0, .slice none 0 0, .slice none 0 0]) 31) else noIt] w8 := hWW
    simp only [List.length_cons, List.length_nil, Nat.reduceAdd, Nat.reduceLT, decide_true, if_true] at O8
    have H8 := Lib.hid O8
    have x0 := (cell_of_heap (O8.heap 8 rfl) 0).trans rfl
    have x1 := (cell_of_heap (O8.heap 8 rfl) 1).trans rfl
    have x2 := (cell_of_heap (O8.heap 8 rfl) 2).trans rfl
    have y0 := (cell_of_heap (O8.heap 9 rfl) 0).trans rfl
    have y1 := (cell_of_heap (O8.heap 9 rfl) 1).trans rfl
    have y2 := (cell_of_heap (O8.heap 9 rfl) 2).trans rfl
    have zx := heap_lt (O8.heap 8 rfl)
    have zy := heap_lt (O8.heap 9 rfl)
    obtain ⟨y, hy⟩ : ∃ y, y = foldVal p l ch := ⟨_, rfl⟩
    obtain ⟨fe, hfe⟩ : ∃ y, y = foldE p l ch := ⟨_, rfl⟩
    have kf : Calls Try.prog 29 #[.agg (prtV Ac1 cc1 Ab1 cb1 p), .agg (plnV Al1 cl1 As1 cs1 l), .int .i64 ch] w8 fun e w' => e = .returned (.tuple #[.agg #[.int .i64 y.add, .int .i64 y.floor, .int .i64 y.most], .int .i64 fe]) ∧ Below w8.heap.size w8 w' := by
      rw [hy, hfe]; exact Fold_any w8.heap.size Ac1 cc1 Ab1 cb1 p Al1 cl1 As1 cs1 l ch w8 (O8.thing 6 rfl) (O8.thing 7 rfl) (Nat.le_refl _)
    have kg : ∀ wx A c B d A' c' B' d', PrtB wx.heap.size wx A c B d p → PlnB wx.heap.size wx A' c' B' d' l → Calls Try.prog 45 #[.agg (prtV A c B d p), .agg (plnV A' c' B' d' l), .int .i64 ch] wx fun e w' => e = .returned (.tuple #[.agg #[.int .i64 y.add, .int .i64 y.floor, .int .i64 y.most], .int .i64 fe]) ∧ Below wx.heap.size wx w' := fun wx A c B d A' c' B' d' h1 h2 => by
      rw [hy, hfe]; exact rFold_any wx.heap.size A c B d p A' c' B' d' l ch wx h1 h2 (Nat.le_refl _)
    have HF := Lib.hid (And.intro kf kg)
    clear hf hF hWW O8 kf kg hy hfe
    simp only [List.filterMap, List.foldl, List.setIfInBounds_toArray, List.set_cons_succ, List.set_cons_zero, e19, e20]
    clear e19 e20
    go_upto_region 13 with (go_at_call 29; refine HF.out.1.mono ?_; rintro e w9 ⟨rfl, hb⟩; have O9 := H8.out.below hb; have u0 := (cell_of_heap (O9.heap 4 rfl) 0).trans rfl; have u1 := (cell_of_heap (O9.heap 4 rfl) 1).trans rfl; have u2 := (cell_of_heap (O9.heap 4 rfl) 2).trans rfl; have f0 := frozen_of_heap (O9.heap 4 rfl) 0; have f1 := frozen_of_heap (O9.heap 4 rfl) 1; have f2 := frozen_of_heap (O9.heap 4 rfl) 2; have zj := heap_lt (O9.heap 4 rfl); have H9b := Lib.hid O9; clear hb O9 x0 x1 x2 y0 y1 y2 zx zy)
    obtain ⟨w12, hw12⟩ : ∃ X, X = ((w9.setCell ⟨jb, 0, none⟩ (.int .i64 y.add)).setCell ⟨jb, 1, none⟩ (.int .i64 y.floor)).setCell ⟨jb, 2, none⟩ (.int .i64 y.most) := ⟨_, rfl⟩
    rw [← hw12]
    have O12 := H9b.out.set 4 rfl ((((Keep.refl [jb] w9).setCell (.inl (by simp)) (.int .i64 y.add)).setCell (.inl (by simp)) (.int .i64 y.floor)).setCell (.inl (by simp)) (.int .i64 y.most)) (heap_set (heap_set (heap_set (H9b.out.heap 4 rfl) 0 (.int .i64 y.add)) 1 (.int .i64 y.floor)) 2 (.int .i64 y.most))
    rw [← hw12] at O12
    have O12' : Own w.heap.size w [It.blk pb (.cells (prtV Ac cc Ab cb p) 26), It.blk lb (.cells (plnV Al cl As cs l) 31), It.blk ab (.cells #[.int .i64 a.add, .int .i64 a.floor, .int .i64 a.most] 59), It.blk bb (.cells #[.int .i64 b.add, .int .i64 b.floor, .int .i64 b.most] 59), It.blk jb (.cells #[.int .i64 y.add, .int .i64 y.floor, .int .i64 y.most] 59), It.blk kb (.cells #[.int .i64 x.add, .int .i64 x.floor, .int .i64 x.most] 95), It.gen q1 (PrtH Ac1 cc1 Ab1 cb1 p), It.gen q2 (PlnH Al1 cl1 As1 cs1 l), It.blk xb (.cells (prtV Ac1 cc1 Ab1 cb1 p) 26), It.blk yb (.cells (plnV Al1 cl1 As1 cs1 l) 31)] w12 := O12
    have H12 := Lib.hid O12'
    clear hw12 O12 O12' u0 u1 u2 f0 f1 f2 zj
    refine wp_region_steps (σ := Cp2) (by kernel_rfl) (by kernel_rfl) (fun sg jx vx _ => MpmV Ac cc Ab cb p Al cl As cs l ch fe y sg jx vx) (fun sg ly wx => Own w.heap.size w [It.blk pb (.cells (prtV Ac cc Ab cb p) 26), It.blk lb (.cells (plnV Al cl As cs l) 31), It.blk ab (.cells #[.int .i64 a.add, .int .i64 a.floor, .int .i64 a.most] 59), It.blk bb (.cells #[.int .i64 b.add, .int .i64 b.floor, .int .i64 b.most] 59), It.blk jb (.cells #[.int .i64 y.add, .int .i64 y.floor, .int .i64 y.most] 59), It.blk kb (.cells (if ly 9 = true then #[.int .i64 y.add, .int .i64 y.floor, .int .i64 y.most] else #[.int .i64 x.add, .int .i64 x.floor, .int .i64 x.most]) 95), It.gen q1 (PrtH Ac1 cc1 Ab1 cb1 p), It.gen q2 (PlnH Al1 cl1 As1 cs1 l), It.blk xb (.cells (prtV Ac1 cc1 Ab1 cb1 p) 26), It.blk yb (.cells (plnV Al1 cl1 As1 cs1 l) 31), if ly 1 = true then It.gen sg.q1 (PrtH sg.Ac sg.cc sg.Ab sg.cb p) else noIt, if ly 3 = true then It.gen sg.q2 (PlnH sg.Al sg.cl sg.As sg.cs l) else noIt] wx) ⟨none, 0, none, 0, [], none, 0, none, 0, [], 0, 0⟩ ?_ ?_ ?_
    · exact (H12.out.blank.blank.drew)
    · simp only [AllFrom, Nat.zero_add, Nat.reduceAdd]
      refine ⟨?_, ?_, ?_, ?_, ?_, ?_, ?_, ?_, ?_, ?_, ?_, trivial⟩
      · refine step_pure fun sg ly act wx hl hd hW hF => ?_
        have et6 := hF.old 6 (by kernel_rfl)
        simp [Act.eval] at et6
        have hO : Own w.heap.size w [It.blk pb (.cells (prtV Ac cc Ab cb p) 26), It.blk lb (.cells (plnV Al cl As cs l) 31), It.blk ab (.cells #[.int .i64 a.add, .int .i64 a.floor, .int .i64 a.most] 59), It.blk bb (.cells #[.int .i64 b.add, .int .i64 b.floor, .int .i64 b.most] 59), It.blk jb (.cells #[.int .i64 y.add, .int .i64 y.floor, .int .i64 y.most] 59), It.blk kb (.cells (if ly 9 = true then #[.int .i64 y.add, .int .i64 y.floor, .int .i64 y.most] else #[.int .i64 x.add, .int .i64 x.floor, .int .i64 x.most]) 95), It.gen q1 (PrtH Ac1 cc1 Ab1 cb1 p), It.gen q2 (PlnH Al1 cl1 As1 cs1 l), It.blk xb (.cells (prtV Ac1 cc1 Ab1 cb1 p) 26), It.blk yb (.cells (plnV Al1 cl1 As1 cs1 l) 31), if ly 1 = true then It.gen sg.q1 (PrtH sg.Ac sg.cc sg.Ab sg.cb p) else noIt, if ly 3 = true then It.gen sg.q2 (PlnH sg.Al sg.cl sg.As sg.cs l) else noIt] wx := hW
        have hh := hO.heap 0 rfl
        have clq0 := (cell_of_heap hh 0).trans rfl
        have clq1 := (cell_of_heap hh 1).trans rfl
        have clq2 := (cell_of_heap hh 2).trans rfl
        have zz := heap_lt hh
        exact ⟨hW, .agg (prtV Ac cc Ab cb p), by go_simp, rfl⟩
      · refine step_call fun sg ly act wx hl hd hW hF => ?_
        simp [Region.binds] at hd
        have et78 := hF.new 0 78 (by simp [hd]) rfl
        simp [MpmV, Act.eval] at et78
        have hO : Own w.heap.size w [It.blk pb (.cells (prtV Ac cc Ab cb p) 26), It.blk lb (.cells (plnV Al cl As cs l) 31), It.blk ab (.cells #[.int .i64 a.add, .int .i64 a.floor, .int .i64 a.most] 59), It.blk bb (.cells #[.int .i64 b.add, .int .i64 b.floor, .int .i64 b.most] 59), It.blk jb (.cells #[.int .i64 y.add, .int .i64 y.floor, .int .i64 y.most] 59), It.blk kb (.cells (if ly 9 = true then #[.int .i64 y.add, .int .i64 y.floor, .int .i64 y.most] else #[.int .i64 x.add, .int .i64 x.floor, .int .i64 x.most]) 95), It.gen q1 (PrtH Ac1 cc1 Ab1 cb1 p), It.gen q2 (PlnH Al1 cl1 As1 cs1 l), It.blk xb (.cells (prtV Ac1 cc1 Ab1 cb1 p) 26), It.blk yb (.cells (plnV Al1 cl1 As1 cs1 l) 31), if ly 1 = true then It.gen sg.q1 (PrtH sg.Ac sg.cc sg.Ab sg.cb p) else noIt, if ly 3 = true then It.gen sg.q2 (PlnH sg.Al sg.cl sg.As sg.cs l) else noIt] wx := hW
        simp only [hl, Bool.false_eq_true, if_false, if_true] at hO
        refine ⟨34, #[.agg (prtV Ac cc Ab cb p)], by go_simp, ?_⟩
        refine (HC.out.2.2.1 wx hO.bel).mono ?_
        rintro e w2 ⟨A', c', B', d', q', rfl, h1, h2, h3⟩
        have hN := hO.newG 10 rfl h3 (h1 _) h2
        refine ⟨_, { sg with Ac := A', cc := c', Ab := B', cb := d', q1 := q' }, rfl, ?_, rfl, ?_⟩
        · simpa [upd] using hN
        · intro i u hi h
          have i1 : i ≠ 1 := by rintro rfl; rw [hl] at hi; cases hi
          unfold MpmV at h ⊢
          split at h <;> first | exact h | exact absurd rfl i1
      · refine step_pure fun sg ly act wx hl hd hW hF => ?_
        have et7 := hF.old 7 (by kernel_rfl)
        simp [Act.eval] at et7
        have hO : Own w.heap.size w [It.blk pb (.cells (prtV Ac cc Ab cb p) 26), It.blk lb (.cells (plnV Al cl As cs l) 31), It.blk ab (.cells #[.int .i64 a.add, .int .i64 a.floor, .int .i64 a.most] 59), It.blk bb (.cells #[.int .i64 b.add, .int .i64 b.floor, .int .i64 b.most] 59), It.blk jb (.cells #[.int .i64 y.add, .int .i64 y.floor, .int .i64 y.most] 59), It.blk kb (.cells (if ly 9 = true then #[.int .i64 y.add, .int .i64 y.floor, .int .i64 y.most] else #[.int .i64 x.add, .int .i64 x.floor, .int .i64 x.most]) 95), It.gen q1 (PrtH Ac1 cc1 Ab1 cb1 p), It.gen q2 (PlnH Al1 cl1 As1 cs1 l), It.blk xb (.cells (prtV Ac1 cc1 Ab1 cb1 p) 26), It.blk yb (.cells (plnV Al1 cl1 As1 cs1 l) 31), if ly 1 = true then It.gen sg.q1 (PrtH sg.Ac sg.cc sg.Ab sg.cb p) else noIt, if ly 3 = true then It.gen sg.q2 (PlnH sg.Al sg.cl sg.As sg.cs l) else noIt] wx := hW
        have hh := hO.heap 1 rfl
        have clq0 := (cell_of_heap hh 0).trans rfl
        have clq1 := (cell_of_heap hh 1).trans rfl
        have clq2 := (cell_of_heap hh 2).trans rfl
        have zz := heap_lt hh
        exact ⟨hW, .agg (plnV Al cl As cs l), by go_simp, rfl⟩
      · refine step_call fun sg ly act wx hl hd hW hF => ?_
        simp [Region.binds] at hd
        have et80 := hF.new 2 80 (by simp [hd]) rfl
        simp [MpmV, Act.eval] at et80
        have hO : Own w.heap.size w [It.blk pb (.cells (prtV Ac cc Ab cb p) 26), It.blk lb (.cells (plnV Al cl As cs l) 31), It.blk ab (.cells #[.int .i64 a.add, .int .i64 a.floor, .int .i64 a.most] 59), It.blk bb (.cells #[.int .i64 b.add, .int .i64 b.floor, .int .i64 b.most] 59), It.blk jb (.cells #[.int .i64 y.add, .int .i64 y.floor, .int .i64 y.most] 59), It.blk kb (.cells (if ly 9 = true then #[.int .i64 y.add, .int .i64 y.floor, .int .i64 y.most] else #[.int .i64 x.add, .int .i64 x.floor, .int .i64 x.most]) 95), It.gen q1 (PrtH Ac1 cc1 Ab1 cb1 p), It.gen q2 (PlnH Al1 cl1 As1 cs1 l), It.blk xb (.cells (prtV Ac1 cc1 Ab1 cb1 p) 26), It.blk yb (.cells (plnV Al1 cl1 As1 cs1 l) 31), if ly 1 = true then It.gen sg.q1 (PrtH sg.Ac sg.cc sg.Ab sg.cb p) else noIt, if ly 3 = true then It.gen sg.q2 (PlnH sg.Al sg.cl sg.As sg.cs l) else noIt] wx := hW
        simp only [hl, Bool.false_eq_true, if_false, if_true] at hO
        refine ⟨35, #[.agg (plnV Al cl As cs l)], by go_simp, ?_⟩
        refine (HC.out.2.2.2 wx hO.bel).mono ?_
        rintro e w2 ⟨A', c', B', d', q', rfl, h1, h2, h3⟩
        have hN := hO.newG 11 rfl h3 (h1 _) h2
        refine ⟨_, { sg with Al := A', cl := c', As := B', cs := d', q2 := q' }, rfl, ?_, rfl, ?_⟩
        · simpa [upd] using hN
        · intro i u hi h
          have i3 : i ≠ 3 := by rintro rfl; rw [hl] at hi; cases hi
          unfold MpmV at h ⊢
          split at h <;> first | exact h | exact absurd rfl i3
      · refine step_pure fun sg ly act wx hl hd hW hF => ?_
        have et5 := hF.old 5 (by kernel_rfl)
        simp [Act.eval] at et5
        exact ⟨hW, .int .i64 ch, by go_simp, rfl⟩
      · refine step_call fun sg ly act wx hl hd hW hF => ?_
        simp [Region.binds] at hd
        have et79 := hF.new 1 79 (by simp [hd]) rfl
        simp [MpmV, Act.eval] at et79
        have et81 := hF.new 3 81 (by simp [hd]) rfl
        simp [MpmV, Act.eval] at et81
        have et82 := hF.new 4 82 (by simp [hd]) rfl
        simp [MpmV, Act.eval] at et82
        have y1 : ly 1 = true := by simp [hd]
        have y3 : ly 3 = true := by simp [hd]
        have hO : Own w.heap.size w [It.blk pb (.cells (prtV Ac cc Ab cb p) 26), It.blk lb (.cells (plnV Al cl As cs l) 31), It.blk ab (.cells #[.int .i64 a.add, .int .i64 a.floor, .int .i64 a.most] 59), It.blk bb (.cells #[.int .i64 b.add, .int .i64 b.floor, .int .i64 b.most] 59), It.blk jb (.cells #[.int .i64 y.add, .int .i64 y.floor, .int .i64 y.most] 59), It.blk kb (.cells (if ly 9 = true then #[.int .i64 y.add, .int .i64 y.floor, .int .i64 y.most] else #[.int .i64 x.add, .int .i64 x.floor, .int .i64 x.most]) 95), It.gen q1 (PrtH Ac1 cc1 Ab1 cb1 p), It.gen q2 (PlnH Al1 cl1 As1 cs1 l), It.blk xb (.cells (prtV Ac1 cc1 Ab1 cb1 p) 26), It.blk yb (.cells (plnV Al1 cl1 As1 cs1 l) 31), if ly 1 = true then It.gen sg.q1 (PrtH sg.Ac sg.cc sg.Ab sg.cb p) else noIt, if ly 3 = true then It.gen sg.q2 (PlnH sg.Al sg.cl sg.As sg.cs l) else noIt] wx := hW
        simp only [hl, y1, y3, Bool.false_eq_true, if_false, if_true] at hO
        have t1 := hO.thing 10 rfl
        have t2 := hO.thing 11 rfl
        refine ⟨45, #[.agg (prtV sg.Ac sg.cc sg.Ab sg.cb p), .agg (plnV sg.Al sg.cl sg.As sg.cs l), .int .i64 ch], by go_simp, ?_⟩
        refine (HF.out.2 wx _ _ _ _ _ _ _ _ t1 t2).mono ?_
        rintro e w2 ⟨rfl, hb⟩
        exact ⟨_, sg, rfl, Own.below hW hb, rfl, fun _ _ _ h => h⟩
      · refine step_pure fun sg ly act wx hl hd hW hF => ?_
        simp [Region.binds] at hd
        have et83 := hF.new 5 83 (by simp [hd]) rfl
        simp [MpmV, Act.eval] at et83
        exact ⟨hW, .tuple #[.agg #[.int .i64 y.add, .int .i64 y.floor, .int .i64 y.most], .int .i64 fe], by go_simp, rfl⟩
      · refine step_pure fun sg ly act wx hl hd hW hF => ?_
        simp [Region.binds] at hd
        have et77 := hF.new 6 77 (by simp [hd]) rfl
        simp [MpmV, Act.eval] at et77
        exact ⟨hW, .agg #[.int .i64 y.add, .int .i64 y.floor, .int .i64 y.most], by go_simp, rfl⟩
      · refine step_pure fun sg ly act wx hl hd hW hF => ?_
        simp [Region.binds] at hd
        have et77 := hF.new 6 77 (by simp [hd]) rfl
        simp [MpmV, Act.eval] at et77
        exact ⟨hW, .int .i64 fe, by go_simp, rfl⟩
      · refine step_store rfl fun sg ly act wx hl hd hW hF => ?_
        simp [Region.binds] at hd
        have et18 := hF.old 18 (by kernel_rfl)
        simp [Act.eval] at et18
        have et84 := hF.new 7 84 (by simp [hd]) rfl
        simp [MpmV, Act.eval] at et84
        have y7 : ly 7 = true := by simp [hd]
        have hO : Own w.heap.size w [It.blk pb (.cells (prtV Ac cc Ab cb p) 26), It.blk lb (.cells (plnV Al cl As cs l) 31), It.blk ab (.cells #[.int .i64 a.add, .int .i64 a.floor, .int .i64 a.most] 59), It.blk bb (.cells #[.int .i64 b.add, .int .i64 b.floor, .int .i64 b.most] 59), It.blk jb (.cells #[.int .i64 y.add, .int .i64 y.floor, .int .i64 y.most] 59), It.blk kb (.cells (if ly 9 = true then #[.int .i64 y.add, .int .i64 y.floor, .int .i64 y.most] else #[.int .i64 x.add, .int .i64 x.floor, .int .i64 x.most]) 95), It.gen q1 (PrtH Ac1 cc1 Ab1 cb1 p), It.gen q2 (PlnH Al1 cl1 As1 cs1 l), It.blk xb (.cells (prtV Ac1 cc1 Ab1 cb1 p) 26), It.blk yb (.cells (plnV Al1 cl1 As1 cs1 l) 31), if ly 1 = true then It.gen sg.q1 (PrtH sg.Ac sg.cc sg.Ab sg.cb p) else noIt, if ly 3 = true then It.gen sg.q2 (PlnH sg.Al sg.cl sg.As sg.cs l) else noIt] wx := hW
        simp only [hl, y7, Bool.false_eq_true, if_false, if_true] at hO
        have hh := hO.heap 5 rfl
        have clq0 := (cell_of_heap hh 0).trans rfl
        have flq0 := frozen_of_heap hh 0
        have clq1 := (cell_of_heap hh 1).trans rfl
        have flq1 := frozen_of_heap hh 1
        have clq2 := (cell_of_heap hh 2).trans rfl
        have flq2 := frozen_of_heap hh 2
        have zz := heap_lt hh
        refine ⟨(((wx.setCell ⟨kb, 0, none⟩ (.int .i64 y.add)).setCell ⟨kb, 1, none⟩ (.int .i64 y.floor)).setCell ⟨kb, 2, none⟩ (.int .i64 y.most)), sg, .skip, by go_simp, .inl rfl, ?_, fun _ _ _ h => h⟩
        have hN := hO.set 5 rfl ((((Keep.refl _ _).setCell (.inl (by simp)) (.int .i64 y.add)).setCell (.inl (by simp)) (.int .i64 y.floor)).setCell (.inl (by simp)) (.int .i64 y.most)) (heap_set (heap_set (heap_set (hh) 0 (.int .i64 y.add)) 1 (.int .i64 y.floor)) 2 (.int .i64 y.most))
        simpa [upd, y7, hl] using hN
      · refine step_pure fun sg ly act wx hl hd hW hF => ?_
        simp [Region.binds] at hd
        have et85 := hF.new 8 85 (by simp [hd]) rfl
        simp [MpmV, Act.eval] at et85
        exact ⟨hW, .int .i64 fe, by go_simp, rfl⟩
    intro sg af w13 hWW hF
    obtain ⟨ff, hf, rfl⟩ := hF.lit
    obtain ⟨Ac2, cc2, Ab2, cb2, q3, Al2, cl2, As2, cs2, q4, xb2, yb2⟩ := sg
    have e16 := hF.new 10 16 (by decide) rfl
    rw [← hf] at e16
    simp only [MpmV] at e16
    have O13 : Own w.heap.size w [It.blk pb (.cells (prtV Ac cc Ab cb p) 26), It.blk lb (.cells (plnV Al cl As cs l) 31), It.blk ab (.cells #[.int .i64 a.add, .int .i64 a.floor, .int .i64 a.most] 59), It.blk bb (.cells #[.int .i64 b.add, .int .i64 b.floor, .int .i64 b.most] 59), It.blk jb (.cells #[.int .i64 y.add, .int .i64 y.floor, .int .i64 y.most] 59), It.blk kb (.cells (if (fun j => decide (j < List.length (_ : List Oper))) 9 = true then #[.int .i64 y.add, .int .i64 y.floor, .int .i64 y.most] else #[.int .i64 x.add, .int .i64 x.floor, .int .i64 x.most]) 95), It.gen q1 (PrtH Ac1 cc1 Ab1 cb1 p), It.gen q2 (PlnH Al1 cl1 As1 cs1 l), It.blk xb (.cells (prtV Ac1 cc1 Ab1 cb1 p) 26), It.blk yb (.cells (plnV Al1 cl1 As1 cs1 l) 31), if (fun j => decide (j < List.length (_ : List Oper))) 1 = true then It.gen (Cp2.mk Ac2 cc2 Ab2 cb2 q3 Al2 cl2 As2 cs2 q4 xb2 yb2).q1 (PrtH (Cp2.mk Ac2 cc2 Ab2 cb2 q3 Al2 cl2 As2 cs2 q4 xb2 yb2).Ac (Cp2.mk Ac2 cc2 Ab2 cb2 q3 Al2 cl2 As2 cs2 q4 xb2 yb2).cc (Cp2.mk Ac2 cc2 Ab2 cb2 q3 Al2 cl2 As2 cs2 q4 xb2 yb2).Ab (Cp2.mk Ac2 cc2 Ab2 cb2 q3 Al2 cl2 As2 cs2 q4 xb2 yb2).cb p) else noIt, if (fun j => decide (j < List.length (_ : List Oper))) 3 = true then It.gen (Cp2.mk Ac2 cc2 Ab2 cb2 q3 Al2 cl2 As2 cs2 q4 xb2 yb2).q2 (PlnH (Cp2.mk Ac2 cc2 Ab2 cb2 q3 Al2 cl2 As2 cs2 q4 xb2 yb2).Al (Cp2.mk Ac2 cc2 Ab2 cb2 q3 Al2 cl2 As2 cs2 q4 xb2 yb2).cl (Cp2.mk Ac2 cc2 Ab2 cb2 q3 Al2 cl2 As2 cs2 q4 xb2 yb2).As (Cp2.mk Ac2 cc2 Ab2 cb2 q3 Al2 cl2 As2 cs2 q4 xb2 yb2).cs l) else noIt] w13 := hWW
    simp only [List.length_cons, List.length_nil, Nat.reduceAdd, Nat.reduceLT, decide_true, if_true] at O13
    have O14 : Own w.heap.size w [It.blk pb (.cells (prtV Ac cc Ab cb p) 26), It.blk lb (.cells (plnV Al cl As cs l) 31), It.blk ab (.cells #[.int .i64 a.add, .int .i64 a.floor, .int .i64 a.most] 59), It.blk bb (.cells #[.int .i64 b.add, .int .i64 b.floor, .int .i64 b.most] 59), It.blk jb (.cells #[.int .i64 y.add, .int .i64 y.floor, .int .i64 y.most] 59), It.blk kb (.cells #[.int .i64 y.add, .int .i64 y.floor, .int .i64 y.most] 95), It.gen q1 (PrtH Ac1 cc1 Ab1 cb1 p), It.gen q2 (PlnH Al1 cl1 As1 cs1 l), It.blk xb (.cells (prtV Ac1 cc1 Ab1 cb1 p) 26), It.blk yb (.cells (plnV Al1 cl1 As1 cs1 l) 31)] w13 := O13.take 10
    have H14 := Lib.hid O14
    clear hf hF hWW O13 O14
    simp only [List.filterMap, List.foldl, List.setIfInBounds_toArray, List.set_cons_succ, List.set_cons_zero, e16]
    clear e16
    go_upto_region 14 with fail
    refine wp_region_stepsG (σ := Cp2) (by kernel_rfl) (by kernel_rfl) (fun sg jx vx _ => MpoV Ac cc Ab cb p Al cl As cs l Ac1 cc1 Ab1 cb1 Al1 cl1 As1 cs1 fe y sg jx vx) (fun sg ly wx => Own w.heap.size w [It.blk pb (.cells (prtV Ac cc Ab cb p) 26), It.blk lb (.cells (plnV Al cl As cs l) 31), It.blk ab (.cells #[.int .i64 a.add, .int .i64 a.floor, .int .i64 a.most] 59), It.blk bb (.cells #[.int .i64 b.add, .int .i64 b.floor, .int .i64 b.most] 59), It.blk jb (.cells #[.int .i64 y.add, .int .i64 y.floor, .int .i64 y.most] 59), It.blk kb (.cells #[.int .i64 y.add, .int .i64 y.floor, .int .i64 y.most] 95), It.gen q1 (PrtH Ac1 cc1 Ab1 cb1 p), It.gen q2 (PlnH Al1 cl1 As1 cs1 l), It.blk xb (.cells (prtV Ac1 cc1 Ab1 cb1 p) 26), It.blk yb (.cells (plnV Al1 cl1 As1 cs1 l) 31), if ly 11 = true then It.gen sg.q1 (PrtH sg.Ac sg.cc sg.Ab sg.cb p) else noIt, if ly 17 = true then It.gen sg.q2 (PlnH sg.Al sg.cl sg.As sg.cs l) else noIt] wx) ⟨none, 0, none, 0, [], none, 0, none, 0, [], 0, 0⟩ ?_ ?_ ?_
    · exact (H14.out.blank.blank.drew)
    · simp only [AllFrom, Nat.zero_add, Nat.reduceAdd]
      refine ⟨?_, ?_, ?_, ?_, ?_, ?_, ?_, ?_, ?_, ?_, ?_, ?_, ?_, ?_, ?_, ?_, ?_, ?_, ?_, ?_, ?_, ?_, ?_, ?_, trivial⟩
      · refine stepG_plain rfl ?_
        refine step_pure fun sg ly act wx hl hd hW hF => ?_
        have et17 := hF.old 17 (by kernel_rfl)
        simp [Act.eval] at et17
        have hO : Own w.heap.size w [It.blk pb (.cells (prtV Ac cc Ab cb p) 26), It.blk lb (.cells (plnV Al cl As cs l) 31), It.blk ab (.cells #[.int .i64 a.add, .int .i64 a.floor, .int .i64 a.most] 59), It.blk bb (.cells #[.int .i64 b.add, .int .i64 b.floor, .int .i64 b.most] 59), It.blk jb (.cells #[.int .i64 y.add, .int .i64 y.floor, .int .i64 y.most] 59), It.blk kb (.cells #[.int .i64 y.add, .int .i64 y.floor, .int .i64 y.most] 95), It.gen q1 (PrtH Ac1 cc1 Ab1 cb1 p), It.gen q2 (PlnH Al1 cl1 As1 cs1 l), It.blk xb (.cells (prtV Ac1 cc1 Ab1 cb1 p) 26), It.blk yb (.cells (plnV Al1 cl1 As1 cs1 l) 31), if ly 11 = true then It.gen sg.q1 (PrtH sg.Ac sg.cc sg.Ab sg.cb p) else noIt, if ly 17 = true then It.gen sg.q2 (PlnH sg.Al sg.cl sg.As sg.cs l) else noIt] wx := hW
        have hh := hO.heap 4 rfl
        have clq0 := (cell_of_heap hh 0).trans rfl
        have clq1 := (cell_of_heap hh 1).trans rfl
        have clq2 := (cell_of_heap hh 2).trans rfl
        have zz := heap_lt hh
        exact ⟨hW, .agg #[.int .i64 y.add, .int .i64 y.floor, .int .i64 y.most], by go_simp, rfl⟩
      · refine stepG_plain rfl ?_
        refine step_pure fun sg ly act wx hl hd hW hF => ?_
        have et18 := hF.old 18 (by kernel_rfl)
        simp [Act.eval] at et18
        have hO : Own w.heap.size w [It.blk pb (.cells (prtV Ac cc Ab cb p) 26), It.blk lb (.cells (plnV Al cl As cs l) 31), It.blk ab (.cells #[.int .i64 a.add, .int .i64 a.floor, .int .i64 a.most] 59), It.blk bb (.cells #[.int .i64 b.add, .int .i64 b.floor, .int .i64 b.most] 59), It.blk jb (.cells #[.int .i64 y.add, .int .i64 y.floor, .int .i64 y.most] 59), It.blk kb (.cells #[.int .i64 y.add, .int .i64 y.floor, .int .i64 y.most] 95), It.gen q1 (PrtH Ac1 cc1 Ab1 cb1 p), It.gen q2 (PlnH Al1 cl1 As1 cs1 l), It.blk xb (.cells (prtV Ac1 cc1 Ab1 cb1 p) 26), It.blk yb (.cells (plnV Al1 cl1 As1 cs1 l) 31), if ly 11 = true then It.gen sg.q1 (PrtH sg.Ac sg.cc sg.Ab sg.cb p) else noIt, if ly 17 = true then It.gen sg.q2 (PlnH sg.Al sg.cl sg.As sg.cs l) else noIt] wx := hW
        have hh := hO.heap 5 rfl
        have clq0 := (cell_of_heap hh 0).trans rfl
        have clq1 := (cell_of_heap hh 1).trans rfl
        have clq2 := (cell_of_heap hh 2).trans rfl
        have zz := heap_lt hh
        exact ⟨hW, .agg #[.int .i64 y.add, .int .i64 y.floor, .int .i64 y.most], by go_simp, rfl⟩
      · refine stepG_plain rfl ?_
        refine step_pure fun sg ly act wx hl hd hW hF => ?_
        simp [Region.binds] at hd
        have et86 := hF.new 0 86 (by simp [hd]) rfl
        simp [MpoV, Act.eval] at et86
        have et87 := hF.new 1 87 (by simp [hd]) rfl
        simp [MpoV, Act.eval] at et87
        have hme := fun w => rmap_eql y w
        exact ⟨hW, .bool true, by go_simp, rfl⟩
      · refine stepG_plain rfl ?_
        refine step_pure fun sg ly act wx hl hd hW hF => ?_
        simp [Region.binds] at hd
        have et88 := hF.new 2 88 (by simp [hd]) rfl
        simp [MpoV, Act.eval] at et88
        exact ⟨hW, .bool true, by go_simp, rfl⟩
      · refine stepG_yes ?_ ?_
        rotate_left
        · intro sg ly a wr hd hF
          simp [Region.binds] at hd
          exact wanted_eq hF (g := 3) (d := 89) (z := true) (b := true) rfl rfl (by simp [hd]) (fun v hv => hv)
        refine step_pure fun sg ly act wx hl hd hW hF => ?_
        have et14 := hF.old 14 (by kernel_rfl)
        simp [Act.eval] at et14
        exact ⟨hW, .int .i64 fe, by go_simp, rfl⟩
      · refine stepG_yes ?_ ?_
        rotate_left
        · intro sg ly a wr hd hF
          simp [Region.binds] at hd
          exact wanted_eq hF (g := 3) (d := 89) (z := true) (b := true) rfl rfl (by simp [hd]) (fun v hv => hv)
        refine step_pure fun sg ly act wx hl hd hW hF => ?_
        have et16 := hF.old 16 (by kernel_rfl)
        simp [Act.eval] at et16
        exact ⟨hW, .int .i64 fe, by go_simp, rfl⟩
      · refine stepG_yes ?_ ?_
        rotate_left
        · intro sg ly a wr hd hF
          simp [Region.binds] at hd
          exact wanted_eq hF (g := 3) (d := 89) (z := true) (b := true) rfl rfl (by simp [hd]) (fun v hv => hv)
        refine step_pure fun sg ly act wx hl hd hW hF => ?_
        simp [Region.binds] at hd
        have et90 := hF.new 4 90 (by simp [hd]) rfl
        simp [MpoV, Act.eval] at et90
        have et91 := hF.new 5 91 (by simp [hd]) rfl
        simp [MpoV, Act.eval] at et91
        have hee : (fe == fe) = true := by simp
        exact ⟨hW, .bool true, by go_simp, rfl⟩
      · refine stepG_plain rfl ?_
        refine step_pure fun sg ly act wx hl hd hW hF => ?_
        simp [Region.binds] at hd
        have et89 := hF.new 3 89 (by simp [hd]) rfl
        simp [MpoV, Act.eval] at et89
        have et92 := hF.new 6 92 (by simp [hd]) rfl
        simp [MpoV, Act.eval] at et92
        exact ⟨hW, .bool true, by go_simp, rfl⟩
      · refine stepG_plain rfl ?_
        refine step_pure fun sg ly act wx hl hd hW hF => ?_
        simp [Region.binds] at hd
        have et93 := hF.new 7 93 (by simp [hd]) rfl
        simp [MpoV, Act.eval] at et93
        exact ⟨hW, .bool true, by go_simp, rfl⟩
      · refine stepG_yes ?_ ?_
        rotate_left
        · intro sg ly a wr hd hF
          simp [Region.binds] at hd
          exact wanted_eq hF (g := 8) (d := 94) (z := true) (b := true) rfl rfl (by simp [hd]) (fun v hv => hv)
        refine step_pure fun sg ly act wx hl hd hW hF => ?_
        have et19 := hF.old 19 (by kernel_rfl)
        simp [Act.eval] at et19
        have hO : Own w.heap.size w [It.blk pb (.cells (prtV Ac cc Ab cb p) 26), It.blk lb (.cells (plnV Al cl As cs l) 31), It.blk ab (.cells #[.int .i64 a.add, .int .i64 a.floor, .int .i64 a.most] 59), It.blk bb (.cells #[.int .i64 b.add, .int .i64 b.floor, .int .i64 b.most] 59), It.blk jb (.cells #[.int .i64 y.add, .int .i64 y.floor, .int .i64 y.most] 59), It.blk kb (.cells #[.int .i64 y.add, .int .i64 y.floor, .int .i64 y.most] 95), It.gen q1 (PrtH Ac1 cc1 Ab1 cb1 p), It.gen q2 (PlnH Al1 cl1 As1 cs1 l), It.blk xb (.cells (prtV Ac1 cc1 Ab1 cb1 p) 26), It.blk yb (.cells (plnV Al1 cl1 As1 cs1 l) 31), if ly 11 = true then It.gen sg.q1 (PrtH sg.Ac sg.cc sg.Ab sg.cb p) else noIt, if ly 17 = true then It.gen sg.q2 (PlnH sg.Al sg.cl sg.As sg.cs l) else noIt] wx := hW
        have hh := hO.heap 8 rfl
        have clq0 := (cell_of_heap hh 0).trans rfl
        have clq1 := (cell_of_heap hh 1).trans rfl
        have clq2 := (cell_of_heap hh 2).trans rfl
        have zz := heap_lt hh
        exact ⟨hW, .agg (prtV Ac1 cc1 Ab1 cb1 p), by go_simp, rfl⟩
      · refine stepG_yes ?_ ?_
        rotate_left
        · intro sg ly a wr hd hF
          simp [Region.binds] at hd
          exact wanted_eq hF (g := 8) (d := 94) (z := true) (b := true) rfl rfl (by simp [hd]) (fun v hv => hv)
        refine step_pure fun sg ly act wx hl hd hW hF => ?_
        have et6 := hF.old 6 (by kernel_rfl)
        simp [Act.eval] at et6
        have hO : Own w.heap.size w [It.blk pb (.cells (prtV Ac cc Ab cb p) 26), It.blk lb (.cells (plnV Al cl As cs l) 31), It.blk ab (.cells #[.int .i64 a.add, .int .i64 a.floor, .int .i64 a.most] 59), It.blk bb (.cells #[.int .i64 b.add, .int .i64 b.floor, .int .i64 b.most] 59), It.blk jb (.cells #[.int .i64 y.add, .int .i64 y.floor, .int .i64 y.most] 59), It.blk kb (.cells #[.int .i64 y.add, .int .i64 y.floor, .int .i64 y.most] 95), It.gen q1 (PrtH Ac1 cc1 Ab1 cb1 p), It.gen q2 (PlnH Al1 cl1 As1 cs1 l), It.blk xb (.cells (prtV Ac1 cc1 Ab1 cb1 p) 26), It.blk yb (.cells (plnV Al1 cl1 As1 cs1 l) 31), if ly 11 = true then It.gen sg.q1 (PrtH sg.Ac sg.cc sg.Ab sg.cb p) else noIt, if ly 17 = true then It.gen sg.q2 (PlnH sg.Al sg.cl sg.As sg.cs l) else noIt] wx := hW
        have hh := hO.heap 0 rfl
        have clq0 := (cell_of_heap hh 0).trans rfl
        have clq1 := (cell_of_heap hh 1).trans rfl
        have clq2 := (cell_of_heap hh 2).trans rfl
        have zz := heap_lt hh
        exact ⟨hW, .agg (prtV Ac cc Ab cb p), by go_simp, rfl⟩
      · refine stepG_yes ?_ ?_
        rotate_left
        · intro sg ly a wr hd hF
          simp [Region.binds] at hd
          exact wanted_eq hF (g := 8) (d := 94) (z := true) (b := true) rfl rfl (by simp [hd]) (fun v hv => hv)
        refine step_call fun sg ly act wx hl hd hW hF => ?_
        simp [Region.binds] at hd
        have et96 := hF.new 10 96 (by simp [hd]) rfl
        simp [MpoV, Act.eval] at et96
        have hO : Own w.heap.size w [It.blk pb (.cells (prtV Ac cc Ab cb p) 26), It.blk lb (.cells (plnV Al cl As cs l) 31), It.blk ab (.cells #[.int .i64 a.add, .int .i64 a.floor, .int .i64 a.most] 59), It.blk bb (.cells #[.int .i64 b.add, .int .i64 b.floor, .int .i64 b.most] 59), It.blk jb (.cells #[.int .i64 y.add, .int .i64 y.floor, .int .i64 y.most] 59), It.blk kb (.cells #[.int .i64 y.add, .int .i64 y.floor, .int .i64 y.most] 95), It.gen q1 (PrtH Ac1 cc1 Ab1 cb1 p), It.gen q2 (PlnH Al1 cl1 As1 cs1 l), It.blk xb (.cells (prtV Ac1 cc1 Ab1 cb1 p) 26), It.blk yb (.cells (plnV Al1 cl1 As1 cs1 l) 31), if ly 11 = true then It.gen sg.q1 (PrtH sg.Ac sg.cc sg.Ab sg.cb p) else noIt, if ly 17 = true then It.gen sg.q2 (PlnH sg.Al sg.cl sg.As sg.cs l) else noIt] wx := hW
        simp only [hl, Bool.false_eq_true, if_false, if_true] at hO
        refine ⟨34, #[.agg (prtV Ac cc Ab cb p)], by go_simp, ?_⟩
        refine (HC.out.2.2.1 wx hO.bel).mono ?_
        rintro e w2 ⟨A', c', B', d', q', rfl, h1, h2, h3⟩
        have hN := hO.newG 10 rfl h3 (h1 _) h2
        refine ⟨_, { sg with Ac := A', cc := c', Ab := B', cb := d', q1 := q' }, rfl, ?_, rfl, ?_⟩
        · simpa [upd] using hN
        · intro i u hi h
          have i11 : i ≠ 11 := by rintro rfl; rw [hl] at hi; cases hi
          unfold MpoV at h ⊢
          split at h <;> first | exact h | exact absurd rfl i11
      · refine stepG_yes ?_ ?_
        rotate_left
        · intro sg ly a wr hd hF
          simp [Region.binds] at hd
          exact wanted_eq hF (g := 8) (d := 94) (z := true) (b := true) rfl rfl (by simp [hd]) (fun v hv => hv)
        refine step_call fun sg ly act wx hl hd hW hF => ?_
        simp [Region.binds] at hd
        have et95 := hF.new 9 95 (by simp [hd]) rfl
        simp [MpoV, Act.eval] at et95
        have et97 := hF.new 11 97 (by simp [hd]) rfl
        simp [MpoV, Act.eval] at et97
        have y11 : ly 11 = true := by simp [hd]
        have hO : Own w.heap.size w [It.blk pb (.cells (prtV Ac cc Ab cb p) 26), It.blk lb (.cells (plnV Al cl As cs l) 31), It.blk ab (.cells #[.int .i64 a.add, .int .i64 a.floor, .int .i64 a.most] 59), It.blk bb (.cells #[.int .i64 b.add, .int .i64 b.floor, .int .i64 b.most] 59), It.blk jb (.cells #[.int .i64 y.add, .int .i64 y.floor, .int .i64 y.most] 59), It.blk kb (.cells #[.int .i64 y.add, .int .i64 y.floor, .int .i64 y.most] 95), It.gen q1 (PrtH Ac1 cc1 Ab1 cb1 p), It.gen q2 (PlnH Al1 cl1 As1 cs1 l), It.blk xb (.cells (prtV Ac1 cc1 Ab1 cb1 p) 26), It.blk yb (.cells (plnV Al1 cl1 As1 cs1 l) 31), if ly 11 = true then It.gen sg.q1 (PrtH sg.Ac sg.cc sg.Ab sg.cb p) else noIt, if ly 17 = true then It.gen sg.q2 (PlnH sg.Al sg.cl sg.As sg.cs l) else noIt] wx := hW
        simp only [hl, y11, Bool.false_eq_true, if_false, if_true] at hO
        have t1 := hO.thing 6 rfl
        have t2 := hO.thing 10 rfl
        refine ⟨40, #[.agg (prtV Ac1 cc1 Ab1 cb1 p), .agg (prtV sg.Ac sg.cc sg.Ab sg.cb p)], by go_simp, ?_⟩
        refine (samePort_any _ _ _ _ _ _ _ _ p wx t1 t2 (by have := HL.out.n1; omega) (by have := HL.out.n2; omega) (fun x hx => by have := HL.out.n3 x hx; omega)).mono ?_
        rintro e w2 ⟨rfl, hb⟩
        exact ⟨_, sg, rfl, Own.below hW hb, rfl, fun _ _ _ h => h⟩
      · refine stepG_plain rfl ?_
        refine step_pure fun sg ly act wx hl hd hW hF => ?_
        simp [Region.binds] at hd
        have et94 := hF.new 8 94 (by simp [hd]) rfl
        simp [MpoV, Act.eval] at et94
        have et98 := hF.new 12 98 (by simp [hd]) rfl
        simp [MpoV, Act.eval] at et98
        exact ⟨hW, .bool true, by go_simp, rfl⟩
      · refine stepG_plain rfl ?_
        refine step_pure fun sg ly act wx hl hd hW hF => ?_
        simp [Region.binds] at hd
        have et99 := hF.new 13 99 (by simp [hd]) rfl
        simp [MpoV, Act.eval] at et99
        exact ⟨hW, .bool true, by go_simp, rfl⟩
      · refine stepG_yes ?_ ?_
        rotate_left
        · intro sg ly a wr hd hF
          simp [Region.binds] at hd
          exact wanted_eq hF (g := 14) (d := 100) (z := true) (b := true) rfl rfl (by simp [hd]) (fun v hv => hv)
        refine step_pure fun sg ly act wx hl hd hW hF => ?_
        have et20 := hF.old 20 (by kernel_rfl)
        simp [Act.eval] at et20
        have hO : Own w.heap.size w [It.blk pb (.cells (prtV Ac cc Ab cb p) 26), It.blk lb (.cells (plnV Al cl As cs l) 31), It.blk ab (.cells #[.int .i64 a.add, .int .i64 a.floor, .int .i64 a.most] 59), It.blk bb (.cells #[.int .i64 b.add, .int .i64 b.floor, .int .i64 b.most] 59), It.blk jb (.cells #[.int .i64 y.add, .int .i64 y.floor, .int .i64 y.most] 59), It.blk kb (.cells #[.int .i64 y.add, .int .i64 y.floor, .int .i64 y.most] 95), It.gen q1 (PrtH Ac1 cc1 Ab1 cb1 p), It.gen q2 (PlnH Al1 cl1 As1 cs1 l), It.blk xb (.cells (prtV Ac1 cc1 Ab1 cb1 p) 26), It.blk yb (.cells (plnV Al1 cl1 As1 cs1 l) 31), if ly 11 = true then It.gen sg.q1 (PrtH sg.Ac sg.cc sg.Ab sg.cb p) else noIt, if ly 17 = true then It.gen sg.q2 (PlnH sg.Al sg.cl sg.As sg.cs l) else noIt] wx := hW
        have hh := hO.heap 9 rfl
        have clq0 := (cell_of_heap hh 0).trans rfl
        have clq1 := (cell_of_heap hh 1).trans rfl
        have clq2 := (cell_of_heap hh 2).trans rfl
        have zz := heap_lt hh
        exact ⟨hW, .agg (plnV Al1 cl1 As1 cs1 l), by go_simp, rfl⟩
      · refine stepG_yes ?_ ?_
        rotate_left
        · intro sg ly a wr hd hF
          simp [Region.binds] at hd
          exact wanted_eq hF (g := 14) (d := 100) (z := true) (b := true) rfl rfl (by simp [hd]) (fun v hv => hv)
        refine step_pure fun sg ly act wx hl hd hW hF => ?_
        have et7 := hF.old 7 (by kernel_rfl)
        simp [Act.eval] at et7
        have hO : Own w.heap.size w [It.blk pb (.cells (prtV Ac cc Ab cb p) 26), It.blk lb (.cells (plnV Al cl As cs l) 31), It.blk ab (.cells #[.int .i64 a.add, .int .i64 a.floor, .int .i64 a.most] 59), It.blk bb (.cells #[.int .i64 b.add, .int .i64 b.floor, .int .i64 b.most] 59), It.blk jb (.cells #[.int .i64 y.add, .int .i64 y.floor, .int .i64 y.most] 59), It.blk kb (.cells #[.int .i64 y.add, .int .i64 y.floor, .int .i64 y.most] 95), It.gen q1 (PrtH Ac1 cc1 Ab1 cb1 p), It.gen q2 (PlnH Al1 cl1 As1 cs1 l), It.blk xb (.cells (prtV Ac1 cc1 Ab1 cb1 p) 26), It.blk yb (.cells (plnV Al1 cl1 As1 cs1 l) 31), if ly 11 = true then It.gen sg.q1 (PrtH sg.Ac sg.cc sg.Ab sg.cb p) else noIt, if ly 17 = true then It.gen sg.q2 (PlnH sg.Al sg.cl sg.As sg.cs l) else noIt] wx := hW
        have hh := hO.heap 1 rfl
        have clq0 := (cell_of_heap hh 0).trans rfl
        have clq1 := (cell_of_heap hh 1).trans rfl
        have clq2 := (cell_of_heap hh 2).trans rfl
        have zz := heap_lt hh
        exact ⟨hW, .agg (plnV Al cl As cs l), by go_simp, rfl⟩
      · refine stepG_yes ?_ ?_
        rotate_left
        · intro sg ly a wr hd hF
          simp [Region.binds] at hd
          exact wanted_eq hF (g := 14) (d := 100) (z := true) (b := true) rfl rfl (by simp [hd]) (fun v hv => hv)
        refine step_call fun sg ly act wx hl hd hW hF => ?_
        simp [Region.binds] at hd
        have et102 := hF.new 16 102 (by simp [hd]) rfl
        simp [MpoV, Act.eval] at et102
        have hO : Own w.heap.size w [It.blk pb (.cells (prtV Ac cc Ab cb p) 26), It.blk lb (.cells (plnV Al cl As cs l) 31), It.blk ab (.cells #[.int .i64 a.add, .int .i64 a.floor, .int .i64 a.most] 59), It.blk bb (.cells #[.int .i64 b.add, .int .i64 b.floor, .int .i64 b.most] 59), It.blk jb (.cells #[.int .i64 y.add, .int .i64 y.floor, .int .i64 y.most] 59), It.blk kb (.cells #[.int .i64 y.add, .int .i64 y.floor, .int .i64 y.most] 95), It.gen q1 (PrtH Ac1 cc1 Ab1 cb1 p), It.gen q2 (PlnH Al1 cl1 As1 cs1 l), It.blk xb (.cells (prtV Ac1 cc1 Ab1 cb1 p) 26), It.blk yb (.cells (plnV Al1 cl1 As1 cs1 l) 31), if ly 11 = true then It.gen sg.q1 (PrtH sg.Ac sg.cc sg.Ab sg.cb p) else noIt, if ly 17 = true then It.gen sg.q2 (PlnH sg.Al sg.cl sg.As sg.cs l) else noIt] wx := hW
        simp only [hl, Bool.false_eq_true, if_false, if_true] at hO
        refine ⟨35, #[.agg (plnV Al cl As cs l)], by go_simp, ?_⟩
        refine (HC.out.2.2.2 wx hO.bel).mono ?_
        rintro e w2 ⟨A', c', B', d', q', rfl, h1, h2, h3⟩
        have hN := hO.newG 11 rfl h3 (h1 _) h2
        refine ⟨_, { sg with Al := A', cl := c', As := B', cs := d', q2 := q' }, rfl, ?_, rfl, ?_⟩
        · simpa [upd] using hN
        · intro i u hi h
          have i17 : i ≠ 17 := by rintro rfl; rw [hl] at hi; cases hi
          unfold MpoV at h ⊢
          split at h <;> first | exact h | exact absurd rfl i17
      · refine stepG_yes ?_ ?_
        rotate_left
        · intro sg ly a wr hd hF
          simp [Region.binds] at hd
          exact wanted_eq hF (g := 14) (d := 100) (z := true) (b := true) rfl rfl (by simp [hd]) (fun v hv => hv)
        refine step_call fun sg ly act wx hl hd hW hF => ?_
        simp [Region.binds] at hd
        have et101 := hF.new 15 101 (by simp [hd]) rfl
        simp [MpoV, Act.eval] at et101
        have et103 := hF.new 17 103 (by simp [hd]) rfl
        simp [MpoV, Act.eval] at et103
        have y17 : ly 17 = true := by simp [hd]
        have hO : Own w.heap.size w [It.blk pb (.cells (prtV Ac cc Ab cb p) 26), It.blk lb (.cells (plnV Al cl As cs l) 31), It.blk ab (.cells #[.int .i64 a.add, .int .i64 a.floor, .int .i64 a.most] 59), It.blk bb (.cells #[.int .i64 b.add, .int .i64 b.floor, .int .i64 b.most] 59), It.blk jb (.cells #[.int .i64 y.add, .int .i64 y.floor, .int .i64 y.most] 59), It.blk kb (.cells #[.int .i64 y.add, .int .i64 y.floor, .int .i64 y.most] 95), It.gen q1 (PrtH Ac1 cc1 Ab1 cb1 p), It.gen q2 (PlnH Al1 cl1 As1 cs1 l), It.blk xb (.cells (prtV Ac1 cc1 Ab1 cb1 p) 26), It.blk yb (.cells (plnV Al1 cl1 As1 cs1 l) 31), if ly 11 = true then It.gen sg.q1 (PrtH sg.Ac sg.cc sg.Ab sg.cb p) else noIt, if ly 17 = true then It.gen sg.q2 (PlnH sg.Al sg.cl sg.As sg.cs l) else noIt] wx := hW
        simp only [hl, y17, Bool.false_eq_true, if_false, if_true] at hO
        have t1 := hO.thing 7 rfl
        have t2 := hO.thing 11 rfl
        refine ⟨41, #[.agg (plnV Al1 cl1 As1 cs1 l), .agg (plnV sg.Al sg.cl sg.As sg.cs l)], by go_simp, ?_⟩
        refine (samePlan_any _ _ _ _ _ _ _ _ l wx t1 t2 (by have := HL.out.n4; omega) (by have := HL.out.n5; omega)).mono ?_
        rintro e w2 ⟨rfl, hb⟩
        exact ⟨_, sg, rfl, Own.below hW hb, rfl, fun _ _ _ h => h⟩
      · refine stepG_plain rfl ?_
        refine step_pure fun sg ly act wx hl hd hW hF => ?_
        simp [Region.binds] at hd
        have et100 := hF.new 14 100 (by simp [hd]) rfl
        simp [MpoV, Act.eval] at et100
        have et104 := hF.new 18 104 (by simp [hd]) rfl
        simp [MpoV, Act.eval] at et104
        exact ⟨hW, .bool true, by go_simp, rfl⟩
      · refine stepG_plain rfl ?_
        refine step_pure fun sg ly act wx hl hd hW hF => ?_
        simp [Region.binds] at hd
        have et105 := hF.new 19 105 (by simp [hd]) rfl
        simp [MpoV, Act.eval] at et105
        exact ⟨hW, .bool true, by go_simp, rfl⟩
      · refine stepG_yes ?_ ?_
        rotate_left
        · intro sg ly a wr hd hF
          simp [Region.binds] at hd
          exact wanted_eq hF (g := 20) (d := 106) (z := true) (b := true) rfl rfl (by simp [hd]) (fun v hv => hv)
        refine step_call fun sg ly act wx hl hd hW hF => ?_
        have hO : Own w.heap.size w [It.blk pb (.cells (prtV Ac cc Ab cb p) 26), It.blk lb (.cells (plnV Al cl As cs l) 31), It.blk ab (.cells #[.int .i64 a.add, .int .i64 a.floor, .int .i64 a.most] 59), It.blk bb (.cells #[.int .i64 b.add, .int .i64 b.floor, .int .i64 b.most] 59), It.blk jb (.cells #[.int .i64 y.add, .int .i64 y.floor, .int .i64 y.most] 59), It.blk kb (.cells #[.int .i64 y.add, .int .i64 y.floor, .int .i64 y.most] 95), It.gen q1 (PrtH Ac1 cc1 Ab1 cb1 p), It.gen q2 (PlnH Al1 cl1 As1 cs1 l), It.blk xb (.cells (prtV Ac1 cc1 Ab1 cb1 p) 26), It.blk yb (.cells (plnV Al1 cl1 As1 cs1 l) 31), if ly 11 = true then It.gen sg.q1 (PrtH sg.Ac sg.cc sg.Ab sg.cb p) else noIt, if ly 17 = true then It.gen sg.q2 (PlnH sg.Al sg.cl sg.As sg.cs l) else noIt] wx := hW
        refine ⟨15, #[], by go_simp, ?_⟩
        refine (awakeP_any wx).mono ?_
        rintro e w2 ⟨rfl, hb⟩
        exact ⟨_, sg, rfl, Own.below hW hb, rfl, fun _ _ _ h => h⟩
      · refine stepG_plain rfl ?_
        refine step_pure fun sg ly act wx hl hd hW hF => ?_
        simp [Region.binds] at hd
        have et106 := hF.new 20 106 (by simp [hd]) rfl
        simp [MpoV, Act.eval] at et106
        have et107 := hF.new 21 107 (by simp [hd]) rfl
        simp [MpoV, Act.eval] at et107
        exact ⟨hW, .bool true, by go_simp, rfl⟩
      · refine stepG_plain rfl ?_
        refine step_pure fun sg ly act wx hl hd hW hF => ?_
        simp [Region.binds] at hd
        have et108 := hF.new 22 108 (by simp [hd]) rfl
        simp [MpoV, Act.eval] at et108
        exact ⟨hW, .bool true, by go_simp, rfl⟩
    intro sg af w15 hWW hF
    obtain ⟨ff, hf, rfl⟩ := hF.lit
    have e12 := hF.new 23 12 (by decide) rfl
    rw [← hf] at e12
    simp only [MpoV] at e12
    have H15 := Lib.hid hWW.bel
    clear hf hF hWW
    simp only [List.filterMap, List.foldl, List.setIfInBounds_toArray, List.set_cons_succ, List.set_cons_zero, e12]
    clear e12
    go_wp2_with fail
    go_ret
    exact ⟨rfl, H15.out⟩
  · go_wp2_with (first | (go_at_call 30; refine H0.out.2.2.1.mono ?_; rintro e w1 ⟨rfl, hb⟩; have H1 := Lib.hid (H0.out.1.bel.trans (hb.mono H0.out.1.lo)); clear hb) | (go_at_call 15; refine (awakeP_any _).mono ?_; rintro e w2 ⟨rfl, hb⟩; have H2 := Lib.hid (H1.out.trans (hb.mono H1.out.size)); clear hb))
    go_ret
    exact ⟨rfl, H2.out⟩
end Go.Proofs.Ythmldeningpjbaa
