/- polynyalaw03.Made (printed by wip/tools/hull10.py) -/
import Derived.Test.YtalcinepeofmcaaDoorRSp11
import Derived.Test.YtalcinepeofmcaaDoorRSp8
import Derived.Test.YtalcinepeofmcaaDoorRSp21
set_option linter.unusedVariables false
set_option linter.unusedSimpArgs false
namespace Go.Proofs.YtalcinepeofmcaaDoor
open Go Go.RowKit Go.Lib Sp Hu
set_option linter.unusedVariables false
set_option linter.unusedSimpArgs false

theorem infoPnt : (Tryd.prog.info? 63).map (fun i => (i.zero, i.size, i.bytes)) = some (some (.agg #[.int .i64 0, .int .i64 0]), 2, 16) := by kernel_rfl
abbrev shA (s : Shp) (At : Option Addr) (lt ct : Nat) (Aw : Option Addr) (lw cw : Nat) (Ai : Option Addr) (li ci : Nat) : Array Value :=
  #[.int .i64 s.cls, .int .i64 s.pow, .int .i64 s.dra, .int .i64 s.ton, .slice At lt ct, .slice Aw lw cw, .slice Ai li ci, .int .i64 s.slow, .int .i64 s.brash, .int .i64 s.ridge, .int .i64 s.press]
def Made3Post (w : World) (e : Ending) (w' : World) : Prop := ∃ At ct Aw cw Ai ci s, e = .returned (.agg (shpV At ct Aw cw Ai ci s)) ∧ shipE s = 0 ∧ ShR At Aw Ai s w' ∧ Below w.heap.size w w'
theorem pnts_snoc (l : List Pnt) (q : Pnt) : pnts l ++ [.int .i64 q.x, .int .i64 q.y] = pnts (l ++ [q]) := (flat_snoc _ _ _).symm

def Mk24Cnt (l : Nat → Bool) : Nat := if l 4 then 1 else 0
set_option linter.unusedVariables false
def Mk24V (ib lb vb : Nat) (y x0 : Int) (k : Nat) (A : Option Addr) (c : Nat) (s : ApS) : Nat → Value → Prop
  | 0, v => v = .pointer (some ⟨vb, 6, none⟩)
  | 1, v => v = .slice A k c
  | 2, v => v = .int .i64 y
  | 3, v => v = .func (.func 45) #[] #[.pointer (some ⟨ib, 0, none⟩), .pointer (some ⟨lb, 0, none⟩)]
  | 4, v => v = .int .i64 x0
  | 5, v => v = .int .i64 (4 * x0)
  | 6, v => v = .int .i64 (y + 4 * x0)
  | 7, v => v = .agg #[.int .i64 400, .int .i64 (y + 4 * x0)]
  | 8, v => v = .slice (some ⟨s.bs, 0, none⟩) 1 1
  | 9, v => v = .slice s.A (k + 1) s.c
  | 10, v => v = .pointer (some ⟨vb, 6, none⟩)
  | _, _ => True
theorem shp_results {F : Func} {r : Nat} (hF : F.results = #[.cell r 25]) {W : World} {b : Nat} {s : Shp} {At Aw Ai : Option Addr} {lt ct lw cw li ci : Nat} (h : W.heap[b]? = some (.cells (shA s At lt ct Aw lw cw Ai li ci) 25 (0, 0))) (tmps : Array Value) (hr : tmps.getD r undef = .pointer (some ⟨b, 0, none⟩)) :
    (results F tmps).run Tryd.prog W = .ok (.agg (shA s At lt ct Aw lw cw Ai li ci)) W := by
  have g8 : tmps[r]?.getD undef = .pointer (some ⟨b, 0, none⟩) := by simpa using hr
  have c0 : W.cell? ⟨b, 0, none⟩ = some (.int .i64 s.cls) := (cell_of_heap h 0).trans rfl
  have c1 : W.cell? ⟨b, 1, none⟩ = some (.int .i64 s.pow) := (cell_of_heap h 1).trans rfl
  have c2 : W.cell? ⟨b, 2, none⟩ = some (.int .i64 s.dra) := (cell_of_heap h 2).trans rfl
  have c3 : W.cell? ⟨b, 3, none⟩ = some (.int .i64 s.ton) := (cell_of_heap h 3).trans rfl
  have c4 : W.cell? ⟨b, 4, none⟩ = some (.slice At lt ct) := (cell_of_heap h 4).trans rfl
  have c5 : W.cell? ⟨b, 5, none⟩ = some (.slice Aw lw cw) := (cell_of_heap h 5).trans rfl
  have c6 : W.cell? ⟨b, 6, none⟩ = some (.slice Ai li ci) := (cell_of_heap h 6).trans rfl
  have c7 : W.cell? ⟨b, 7, none⟩ = some (.int .i64 s.slow) := (cell_of_heap h 7).trans rfl
  have c8 : W.cell? ⟨b, 8, none⟩ = some (.int .i64 s.brash) := (cell_of_heap h 8).trans rfl
  have c9 : W.cell? ⟨b, 9, none⟩ = some (.int .i64 s.ridge) := (cell_of_heap h 9).trans rfl
  have c10 : W.cell? ⟨b, 10, none⟩ = some (.int .i64 s.press) := (cell_of_heap h 10).trans rfl
  simp [results, hF, g8, asAddr, go_sem, c0, c1, c2, c3, c4, c5, c6, c7, c8, c9, c10]

set_option maxRecDepth 100000 in
set_option maxHeartbeats 4000000 in
theorem Made3_any (A : Option Addr) (c : Nat) (l : List Int) (w : World) (hr : Rd w 1 A l.length (byts l)) (hl : Bytes l) (hm : l.length ≤ 9223372036854775806) :
    Calls Tryd.prog 4 #[.slice A l.length c] w (Made3Post w) := by
  obtain ⟨iP, hP0, hP1, hP2, hP3⟩ := info_parts infoPnt
  have hA : 0 < l.length → ∀ b off, A = some ⟨b, off, none⟩ → b < w.heap.size := fun h0 b off e => by
    obtain ⟨b', o', e', hb, _⟩ := hr.2 h0
    rw [e] at e'
    injection e' with e'
    injection e' with e' _ _
    omega
  obtain ⟨W, hW⟩ : ∃ W, W = w.alloc (.cells #[.int .i64 0, .int .i64 0, .int .i64 0, .int .i64 0, .slice none 0 0, .slice none 0 0, .slice none 0 0, .int .i64 0, .int .i64 0, .int .i64 0, .int .i64 0] 25) := ⟨_, rfl⟩
  obtain ⟨rb, hrb⟩ : ∃ b, b = w.heap.size := ⟨_, rfl⟩
  have S1 : Own w.heap.size w [.blk rb (.cells #[.int .i64 0, .int .i64 0, .int .i64 0, .int .i64 0, .slice none 0 0, .slice none 0 0, .slice none 0 0, .int .i64 0, .int .i64 0, .int .i64 0, .int .i64 0] 25)] W := by
    have h := (Own.start w).alloc (.cells #[.int .i64 0, .int .i64 0, .int .i64 0, .int .i64 0, .slice none 0 0, .slice none 0 0, .slice none 0 0, .int .i64 0, .int .i64 0, .int .i64 0, .int .i64 0] 25)
    rw [hW, hrb]; simpa using h
  have kd : Calls Tryd.prog 14 #[.slice A l.length c] W (DrawnPost w.heap.size W) := Drawn_some w.heap.size A c l W (hr.below S1.bel) hl hm S1.lo hA
  have HS1 := Lib.hid S1
  have HKD := Lib.hid kd
  clear S1 kd hr hl hm hA
  go_enter Tryd.func4, Tryd.ntmps4
  go_upto_region 1 with fail
  rw [← hW, ← hrb]
  clear hW hrb
  go_upto_region 2 with (go_at_call 14; refine HKD.out.mono ?_; rintro e w1 ⟨ib, lb, rfl, nx1, hib, hlb, b1⟩; have HS2 := Lib.hid (HS1.out.new b1 (i := .nx ib lb) nx1 (by simp [It.fp]; omega)); clear nx1 hib hlb b1)
  go_upto_region 3 with (first | (go_at_call 45; refine (next_some (6) (HS2.out.nxt 1 rfl) (by decide)).mono ?_; rintro e w2 ⟨x0, rfl, ⟨x01, x02⟩, nx3, k3, s3⟩; have HS3 := Lib.hid (HS2.out.next 1 rfl nx3 k3); clear nx3 k3 s3; clear HS2) | (go_at_call 45; refine (next_some (256) (HS3.out.nxt 1 rfl) (by decide)).mono ?_; rintro e w3 ⟨x1, rfl, ⟨x11, x12⟩, nx3, k3, s3⟩; have HS4 := Lib.hid (HS3.out.next 1 rfl nx3 k3); clear nx3 k3 s3; clear HS3) | (go_at_call 45; refine (next_some (256) (HS4.out.nxt 1 rfl) (by decide)).mono ?_; rintro e w4 ⟨x2, rfl, ⟨x21, x22⟩, nx3, k3, s3⟩; have HS5 := Lib.hid (HS4.out.next 1 rfl nx3 k3); clear nx3 k3 s3; clear HS4) | (go_at_call 45; refine (next_some (256) (HS5.out.nxt 1 rfl) (by decide)).mono ?_; rintro e w5 ⟨x3, rfl, ⟨x31, x32⟩, nx3, k3, s3⟩; have HS6 := Lib.hid (HS5.out.next 1 rfl nx3 k3); clear nx3 k3 s3; clear HS5) | (go_at_call 45; refine (next_some (21) (HS6.out.nxt 1 rfl) (by decide)).mono ?_; rintro e w6 ⟨x4, rfl, ⟨x41, x42⟩, nx3, k3, s3⟩; have HS7 := Lib.hid (HS6.out.next 1 rfl nx3 k3); clear nx3 k3 s3; clear HS6) | (go_at_call 45; refine (next_some (101) (HS7.out.nxt 1 rfl) (by decide)).mono ?_; rintro e w7 ⟨x5, rfl, ⟨x51, x52⟩, nx3, k3, s3⟩; have HS8 := Lib.hid (HS7.out.next 1 rfl nx3 k3); clear nx3 k3 s3; clear HS7) | (go_at_call 45; refine (next_some (240) (HS8.out.nxt 1 rfl) (by decide)).mono ?_; rintro e w8 ⟨x6, rfl, ⟨x61, x62⟩, nx3, k3, s3⟩; have HS9 := Lib.hid (HS8.out.next 1 rfl nx3 k3); clear nx3 k3 s3; clear HS8) | (go_at_call 45; refine (next_some (256) (HS9.out.nxt 1 rfl) (by decide)).mono ?_; rintro e w9 ⟨x7, rfl, ⟨x71, x72⟩, nx3, k3, s3⟩; have HS10 := Lib.hid (HS9.out.next 1 rfl nx3 k3); clear nx3 k3 s3; clear HS9))
  obtain ⟨s0, hs0⟩ : ∃ s : Shp, s = ⟨1 + x0, 100 + 390 * x1, 10 + 7 * x2, 10 + 1900 * x3, [], [], [], x4, x5, 2 * x6, 4 * x7⟩ := ⟨_, rfl⟩
  obtain ⟨vb, hvb⟩ : ∃ b, b = w9.heap.size := ⟨_, rfl⟩
  obtain ⟨X, hX⟩ : ∃ X, X = w9.alloc (.cells (shA s0 none 0 0 none 0 0 none 0 0) 25) := ⟨_, rfl⟩
  have eX : X = w9.alloc (.cells #[.int .i64 (1 + x0), .int .i64 (100 + 390 * x1), .int .i64 (10 + 7 * x2), .int .i64 (10 + 1900 * x3), .slice none 0 0, .slice none 0 0, .slice none 0 0, .int .i64 x4, .int .i64 x5, .int .i64 (2 * x6), .int .i64 (4 * x7)] 25) := by rw [hX, hs0]
  rw [← eX, ← hvb]
  have bs : (1 ≤ s0.cls ∧ s0.cls ≤ 6) ∧ (100 ≤ s0.pow ∧ s0.pow ≤ 100000) ∧ (10 ≤ s0.dra ∧ s0.dra ≤ 2000) ∧ (10 ≤ s0.ton ∧ s0.ton ≤ 500000) ∧ (0 ≤ s0.slow ∧ s0.slow ≤ 20) ∧ (0 ≤ s0.brash ∧ s0.brash ≤ 100) ∧ (0 ≤ s0.ridge ∧ s0.ridge ≤ 500) ∧ (0 ≤ s0.press ∧ s0.press ≤ 5000) := by rw [hs0]; simp only; omega
  have S4 : Own w.heap.size w [.blk rb (.cells #[.int .i64 0, .int .i64 0, .int .i64 0, .int .i64 0, .slice none 0 0, .slice none 0 0, .slice none 0 0, .int .i64 0, .int .i64 0, .int .i64 0, .int .i64 0] 25), .nx ib lb, .blk vb (.cells (shA s0 none 0 0 none 0 0 none 0 0) 25 (0, 0)), .own 63 2 (none) (0) (0) (pnts []) [], .own 63 2 (none) (0) (0) (pnts []) [], .own 63 2 (none) (0) (0) (pnts []) []] X := by
    have h0 := HS10.out.alloc (.cells (shA s0 none 0 0 none 0 0 none 0 0) 25)
    have h1 := h0.new (i := .own 63 2 (none) (0) (0) (pnts []) []) (Below.refl _ _) (OwnS.nil _ _ _) (by simp [It.fp])
    have h2 := h1.new (i := .own 63 2 (none) (0) (0) (pnts []) []) (Below.refl _ _) (OwnS.nil _ _ _) (by simp [It.fp])
    have h3 := h2.new (i := .own 63 2 (none) (0) (0) (pnts []) []) (Below.refl _ _) (OwnS.nil _ _ _) (by simp [It.fp])
    rw [hX, hvb]; exact h3
  have HB := Lib.hid bs
  have HS11 := Lib.hid S4
  clear eX hX hvb hs0 bs S4 x01 x02 x11 x12 x21 x22 x31 x32 x41 x42 x51 x52 x61 x62 x71 x72
  go_upto_region 4 with (go_at_call 45; refine (next_some (256) (HS11.out.nxt 1 rfl) (by decide)).mono ?_; rintro e wa ⟨ya, rfl, ⟨ya1, ya2⟩, nx3, k3, s3⟩; have HS12 := Lib.hid (HS11.out.next 1 rfl nx3 k3); clear nx3 k3 s3)
  obtain ⟨y0, hy0⟩ : ∃ y, y = 200 + 20 * ya := ⟨_, rfl⟩
  have by0 : 200 ≤ y0 ∧ y0 ≤ 5300 := by omega
  rw [← hy0]
  clear hy0 ya1 ya2
  have hv := HS12.out.heap 2 rfl
  have v4 : wa.cell? ⟨vb, 4, none⟩ = some (.slice none 0 0) := (cell_of_heap hv 4).trans rfl
  have f4 := frozen_of_heap hv 4
  have zv := heap_lt hv
  clear hv
  go_upto_region 5 with fail
  obtain ⟨gt, hgt⟩ : ∃ b, b = wa.heap.size := ⟨_, rfl⟩
  obtain ⟨Y0, hY0⟩ : ∃ Y, Y = wa.setCell ⟨vb, 4, none⟩ (.slice (some ⟨wa.heap.size, 0, none⟩) 1 1) := ⟨_, rfl⟩
  obtain ⟨Y, hY⟩ : ∃ Y, Y = Y0.alloc (.cells #[.int .i64 0, .int .i64 y0] 63) := ⟨_, rfl⟩
  rw [← hY0, ← hY, ← hgt]
  rw [← hgt] at hY0
  have hz : Y0.heap.size = gt := by rw [hY0, hgt]; simp
  have S13 : Own w.heap.size w [.blk rb (.cells #[.int .i64 0, .int .i64 0, .int .i64 0, .int .i64 0, .slice none 0 0, .slice none 0 0, .slice none 0 0, .int .i64 0, .int .i64 0, .int .i64 0, .int .i64 0] 25), .nx ib lb, .blk vb (.cells (shA s0 (some ⟨gt, 0, none⟩) (1) (1) (none) (0) (0) (none) (0) (0)) 25 (0, 0)), .own 63 2 (some ⟨gt, 0, none⟩) (1) (1) (pnts [⟨0, y0⟩]) [gt], .own 63 2 (none) (0) (0) (pnts []) [], .own 63 2 (none) (0) (0) (pnts []) []] Y := by
    have h1 := HS12.out.set 2 rfl (w' := Y0) (by rw [hY0]; exact (Keep.refl _ _).setCell (.inl (by simp)) _) (by rw [hY0]; exact heap_set (HS12.out.heap 2 rfl) 4 _)
    have h2 := h1.upd 3 rfl (w' := Y) (i' := .own 63 2 (some ⟨gt, 0, none⟩) 1 1 (pnts [⟨0, y0⟩]) [gt]) (by rw [hY]; exact (Keep.refl _ _).alloc _) ⟨rfl, .inr ⟨gt, #[.int .i64 0, .int .i64 y0], rfl, rfl, by rw [hY, ← hz]; exact heap_alloc_new _ _, Nat.le_refl _, by omega, rfl, fun j u hu => by simpa [pnt] using hu⟩⟩ (fun x hx => .inr (by rw [List.mem_singleton.1 hx]; omega))
    exact h2
  have HS13 := Lib.hid S13
  clear v4 f4 zv hY hY0 hz hgt S13
  go_upto_block 0 with (go_at_call 45; refine (next_some (4) (HS13.out.nxt 1 rfl) (by decide)).mono ?_; rintro e wn ⟨nq, rfl, ⟨nq1, nq2⟩, nx3, k3, s3⟩; have HL := Lib.hid (HS13.out.next 1 rfl nx3 k3); clear nx3 k3 s3)
  obtain ⟨nn, hnn⟩ : ∃ n : Nat, (n : Int) = 1 + nq := ⟨(1 + nq).toNat, by omega⟩
  have hn4 : 1 ≤ nn ∧ nn ≤ 4 := by omega
  rw [← hnn]
  clear hnn nq1 nq2
  go_wp2_with fail
  go_loopg [5, 6, 46] nn (fun g xv yv i wx => ∃ (k : Nat) (x y : Int) (thr : List Pnt) (At : Option Addr) (ct : Nat) (ft : List Nat), g + k = nn ∧ i = .int .i64 k ∧ xv = .int .i64 x ∧ yv = .int .i64 y ∧ (thr.length = k + 1 ∧ Mk thr x y ∧ Dn thr) ∧ ((10 * (k : Int) ≤ x ∧ x ≤ 49 * (k : Int)) ∧ (0 ≤ y ∧ y ≤ 5300)) ∧ Own w.heap.size w [.blk rb (.cells #[.int .i64 0, .int .i64 0, .int .i64 0, .int .i64 0, .slice none 0 0, .slice none 0 0, .slice none 0 0, .int .i64 0, .int .i64 0, .int .i64 0, .int .i64 0] 25), .nx ib lb, .blk vb (.cells (shA s0 (At) (k + 1) (ct) (none) (0) (0) (none) (0) (0)) 25 (0, 0)), .own 63 2 (At) (k + 1) (ct) (pnts thr) ft, .own 63 2 (none) (0) (0) (pnts []) [], .own 63 2 (none) (0) (0) (pnts []) []] wx)
  case atStart => exact ⟨0, 0, y0, [⟨0, y0⟩], some ⟨gt, 0, none⟩, 1, [gt], rfl, rfl, rfl, rfl, ⟨rfl, Mk.one (by omega), by simp [Dn]⟩, by omega, HL.out⟩
  case round =>
    obtain ⟨k, x, y, thr, At, ct, ft, hk, rfl, rfl, rfl, hT, hbd, hO⟩ := hrel
    have HO := Lib.hid (And.intro hO hT.2)
    have hlen := hT.1
    clear hO hT
    by_cases hlt : k < nn
    · have TK := Lib.hid True.intro
      go_upto_region 8 with (first | (go_at_call 45; clear TK; refine (next_some 40 (HO.out.1.nxt 1 rfl) (by decide)).mono ?_; rintro e w2 ⟨d, rfl, ⟨d1, d2⟩, nx3, k3, s3⟩; have HD := Lib.hid (HO.out.1.next 1 rfl nx3 k3); have HF := Lib.hid True.intro; clear nx3 k3 s3) | (go_at_call 45; clear HF; refine (next_some 101 (HD.out.nxt 1 rfl) (by decide)).mono ?_; rintro e w3 ⟨e_, rfl, ⟨e1, e2⟩, nx3, k3, s3⟩; have HE := Lib.hid (HD.out.next 1 rfl nx3 k3); clear nx3 k3 s3 HD; have hy0 := hbd.2; have hm1 := Int.mul_nonneg (show 0 ≤ y by omega) (show 0 ≤ e_ by omega); have hm2 := (mul_bd (a := y) (b := e_) (A := 5300) (B := 100) (by omega) (by omega)).2; have hm3 := Int.mul_le_mul_of_nonneg_left (show e_ ≤ 100 by omega) (show 0 ≤ y by omega); have hm4 : (y * e_).tdiv 100 = y * e_ / 100 := Int.tdiv_eq_ediv_of_nonneg hm1))
      obtain ⟨x', hx'⟩ : ∃ t, t = x + 10 + d := ⟨_, rfl⟩
      obtain ⟨y', hy'⟩ : ∃ t, t = y * e_ / 100 := ⟨_, rfl⟩
      rw [← hx', ← hy']
      have hxy : x < x' ∧ (10 * ((k + 1 : Nat) : Int) ≤ x' ∧ x' ≤ 49 * ((k + 1 : Nat) : Int)) ∧ (0 ≤ y' ∧ y' ≤ y) := by rw [hx', hy']; omega
      clear hx' hy' d1 d2 e1 e2
      have hv := HE.out.heap 2 rfl
      have v4 : w3.cell? ⟨vb, 4, none⟩ = some (.slice At (k + 1) ct) := (cell_of_heap hv 4).trans rfl
      have zv := heap_lt hv
      have OB : OwnS w3 63 2 At (k + 1) ct (pnts thr) ft := HE.out.owns 3 rfl
      have HE2 := Lib.hid (And.intro HE.out OB)
      clear OB hv HE
      go_wp2_with (at_builtin
                   (
                     refine wpList_append_S (size := 2) rfl (.tmp 59) (.tmp 63) 23 rfl iP _ 16 Tryd.underlying23 hP0 hP1 hP2 (by decide) hP3 rfl (A := At) (n := k + 1) (c := ct) (xs := pnts thr) (fp := ft) (by simp [Act.eval]) ⟨w3.heap.size, 0, none⟩ (by simp [Act.eval]) [.int .i64 x', .int .i64 y'] (HE2.out.2.alloc _) rfl ?_ (by simp [Value.oneCell']) (by omega) (by omega) ?_
                     · intro i v hv
                       rw [show (⟨w3.heap.size, 0, none⟩ : Addr).add i = ⟨w3.heap.size, i, none⟩ from by simp [Addr.add]; omega, World.cell?_alloc_new]
                       simpa using hv
                     intro g c' w10 q1 q2 q3 q4
                     have SA := HE2.out.1.below ((Below.refl w3.heap.size w3).alloc (Nat.le_refl _) (.cells #[.int .i64 x', .int .i64 y'] 63))
                     have SB := SA.upd 3 rfl (i' := It.own 63 2 (some ⟨g, 0, none⟩) (k + 1 + 1) c' (pnts thr ++ [Value.int .i64 x', Value.int .i64 y']) [g]) q4 q1 (fun x hx => by rw [List.mem_singleton.1 hx]; rcases q2 with e | e; exact .inl e; exact .inr (Nat.le_of_eq e))
                     have hoc := SB.heap 2 rfl
                     have d2 : w10.cell? ⟨vb, 4, none⟩ = some (.slice At (k + 1) ct) := (cell_of_heap hoc 4).trans rfl
                     have e2 := frozen_of_heap hoc 4
                     have zq := heap_lt hoc
                     have HSB := Lib.hid SB
                     clear SA SB hoc q1 q2 q3 q4 v4 zv))
      have SF := HSB.out.set 2 rfl (w' := w10.setCell ⟨vb, 4, none⟩ (.slice (some ⟨g, 0, none⟩) (k + 1 + 1) c')) ((Keep.refl _ _).setCell (.inl (by simp)) _) (heap_set (HSB.out.heap 2 rfl) 4 _)
      go_roundg (gk - 1)
      case measure => omega
      case rel =>
        refine ⟨k + 1, x', y', thr ++ [⟨x', y'⟩], some ⟨g, 0, none⟩, c', [g], by omega, by go_num, rfl, rfl, ⟨by rw [List.length_append, hlen]; rfl, HO.out.2.1.snoc (by omega) (by omega) (by omega), dn_snoc HO.out.2.2 HO.out.2.1.last (by omega)⟩, by omega, ?_⟩
        have h := SF
        simp only [pnts_snoc thr ⟨x', y'⟩] at h
        exact h
    · obtain rfl : k = nn := by omega
      obtain ⟨lt, hlt2⟩ : ∃ n, n = k + 1 := ⟨_, rfl⟩
      have HT0 := Lib.hid (And.intro (show thr.length = lt by omega) (And.intro HO.out.2 (show 10 ≤ x ∧ x ≤ 196 ∧ 2 ≤ lt ∧ lt ≤ 5 by omega)))
      have HQ := Lib.hid HO.out.1
      rw [← hlt2] at HQ
      clear HO hlt2 hbd hlen
      go_upto_region 11 with (go_at_call 45; refine (next_some (50) (HQ.out.nxt 1 rfl) (by decide)).mono ?_; rintro e wa ⟨y1, rfl, ⟨y11, y12⟩, nx3, k3, s3⟩; have HS12 := Lib.hid (HQ.out.next 1 rfl nx3 k3); clear nx3 k3 s3)
      have hv := HS12.out.heap 2 rfl
      have v4 : wa.cell? ⟨vb, 5, none⟩ = some (.slice none 0 0) := (cell_of_heap hv 5).trans rfl
      have f4 := frozen_of_heap hv 5
      have zv := heap_lt hv
      clear hv
      go_upto_region 12 with fail
      obtain ⟨gw, hgw⟩ : ∃ b, b = wa.heap.size := ⟨_, rfl⟩
      obtain ⟨Y0, hY0⟩ : ∃ Y, Y = wa.setCell ⟨vb, 5, none⟩ (.slice (some ⟨wa.heap.size, 0, none⟩) 1 1) := ⟨_, rfl⟩
      obtain ⟨Y, hY⟩ : ∃ Y, Y = Y0.alloc (.cells #[.int .i64 0, .int .i64 y1] 63) := ⟨_, rfl⟩
      rw [← hY0, ← hY, ← hgw]
      rw [← hgw] at hY0
      have hz : Y0.heap.size = gw := by rw [hY0, hgw]; simp
      have S13 : Own w.heap.size w [.blk rb (.cells #[.int .i64 0, .int .i64 0, .int .i64 0, .int .i64 0, .slice none 0 0, .slice none 0 0, .slice none 0 0, .int .i64 0, .int .i64 0, .int .i64 0, .int .i64 0] 25), .nx ib lb, .blk vb (.cells (shA s0 (At) (lt) (ct) (some ⟨gw, 0, none⟩) (1) (1) (none) (0) (0)) 25 (0, 0)), .own 63 2 (At) (lt) (ct) (pnts thr) ft, .own 63 2 (some ⟨gw, 0, none⟩) (1) (1) (pnts [⟨0, y1⟩]) [gw], .own 63 2 (none) (0) (0) (pnts []) []] Y := by
        have h1 := HS12.out.set 2 rfl (w' := Y0) (by rw [hY0]; exact (Keep.refl _ _).setCell (.inl (by simp)) _) (by rw [hY0]; exact heap_set (HS12.out.heap 2 rfl) 5 _)
        have h2 := h1.upd 4 rfl (w' := Y) (i' := .own 63 2 (some ⟨gw, 0, none⟩) 1 1 (pnts [⟨0, y1⟩]) [gw]) (by rw [hY]; exact (Keep.refl _ _).alloc _) ⟨rfl, .inr ⟨gw, #[.int .i64 0, .int .i64 y1], rfl, rfl, by rw [hY, ← hz]; exact heap_alloc_new _ _, Nat.le_refl _, by omega, rfl, fun j u hu => by simpa [pnt] using hu⟩⟩ (fun x hx => .inr (by rw [List.mem_singleton.1 hx]; omega))
        exact h2
      have HS13 := Lib.hid S13
      clear v4 f4 zv hY hY0 hz hgw S13
      go_upto_block 2 with (go_at_call 45; refine (next_some (3) (HS13.out.nxt 1 rfl) (by decide)).mono ?_; rintro e wn ⟨nq, rfl, ⟨nq1, nq2⟩, nx3, k3, s3⟩; have HL := Lib.hid (HS13.out.next 1 rfl nx3 k3); clear nx3 k3 s3)
      obtain ⟨nn, hnn⟩ : ∃ n : Nat, (n : Int) = 1 + nq := ⟨(1 + nq).toNat, by omega⟩
      have hn4 : 1 ≤ nn ∧ nn ≤ 3 := by omega
      rw [← hnn]
      clear hnn nq1 nq2
      go_wp2_with fail
      go_loopg [5, 6, 76] nn (fun g xv yv i wx => ∃ (k : Nat) (x y : Int) (wat : List Pnt) (Aw : Option Addr) (cw : Nat) (fw : List Nat), g + k = nn ∧ i = .int .i64 k ∧ xv = .int .i64 x ∧ yv = .int .i64 y ∧ (wat.length = k + 1 ∧ Mk wat x y ∧ Up wat) ∧ (((k : Int) ≤ x ∧ x ≤ 80 * (k : Int)) ∧ (0 ≤ y ∧ y ≤ 49 + 765 * (k : Int))) ∧ Own w.heap.size w [.blk rb (.cells #[.int .i64 0, .int .i64 0, .int .i64 0, .int .i64 0, .slice none 0 0, .slice none 0 0, .slice none 0 0, .int .i64 0, .int .i64 0, .int .i64 0, .int .i64 0] 25), .nx ib lb, .blk vb (.cells (shA s0 (At) (lt) (ct) (Aw) (k + 1) (cw) (none) (0) (0)) 25 (0, 0)), .own 63 2 (At) (lt) (ct) (pnts thr) ft, .own 63 2 (Aw) (k + 1) (cw) (pnts wat) fw, .own 63 2 (none) (0) (0) (pnts []) []] wx)
      case atStart => exact ⟨0, 0, y1, [⟨0, y1⟩], some ⟨gw, 0, none⟩, 1, [gw], rfl, rfl, rfl, rfl, ⟨rfl, Mk.one (by omega), by simp [Up]⟩, by omega, HL.out⟩
      case round =>
        obtain ⟨k, x, y, wat, Aw, cw, fw, hk, rfl, rfl, rfl, hT, hbd, hO⟩ := hrel
        have HO := Lib.hid (And.intro hO hT.2)
        have hlen := hT.1
        clear hO hT
        by_cases hlt : k < nn
        · have TK := Lib.hid True.intro
          go_upto_region 15 with (first | (go_at_call 45; clear TK; refine (next_some 80 (HO.out.1.nxt 1 rfl) (by decide)).mono ?_; rintro e w2 ⟨d, rfl, ⟨d1, d2⟩, nx3, k3, s3⟩; have HD := Lib.hid (HO.out.1.next 1 rfl nx3 k3); have HF := Lib.hid True.intro; clear nx3 k3 s3) | (go_at_call 45; clear HF; refine (next_some 256 (HD.out.nxt 1 rfl) (by decide)).mono ?_; rintro e w3 ⟨e_, rfl, ⟨e1, e2⟩, nx3, k3, s3⟩; have HE := Lib.hid (HD.out.next 1 rfl nx3 k3); clear nx3 k3 s3 HD))
          obtain ⟨x', hx'⟩ : ∃ t, t = x + 1 + d := ⟨_, rfl⟩
          obtain ⟨y', hy'⟩ : ∃ t, t = y + 3 * e_ := ⟨_, rfl⟩
          rw [← hx', ← hy']
          have hxy : x < x' ∧ (((k + 1 : Nat) : Int) ≤ x' ∧ x' ≤ 80 * ((k + 1 : Nat) : Int)) ∧ (y ≤ y' ∧ y' ≤ 49 + 765 * ((k + 1 : Nat) : Int)) := by rw [hx', hy']; omega
          clear hx' hy' d1 d2 e1 e2
          have hv := HE.out.heap 2 rfl
          have v4 : w3.cell? ⟨vb, 5, none⟩ = some (.slice Aw (k + 1) cw) := (cell_of_heap hv 5).trans rfl
          have zv := heap_lt hv
          have OB : OwnS w3 63 2 Aw (k + 1) cw (pnts wat) fw := HE.out.owns 4 rfl
          have HE2 := Lib.hid (And.intro HE.out OB)
          clear OB hv HE
          go_wp2_with (at_builtin
                       (
                         refine wpList_append_S (size := 2) rfl (.tmp 89) (.tmp 93) 23 rfl iP _ 16 Tryd.underlying23 hP0 hP1 hP2 (by decide) hP3 rfl (A := Aw) (n := k + 1) (c := cw) (xs := pnts wat) (fp := fw) (by simp [Act.eval]) ⟨w3.heap.size, 0, none⟩ (by simp [Act.eval]) [.int .i64 x', .int .i64 y'] (HE2.out.2.alloc _) rfl ?_ (by simp [Value.oneCell']) (by omega) (by omega) ?_
                         · intro i v hv
                           rw [show (⟨w3.heap.size, 0, none⟩ : Addr).add i = ⟨w3.heap.size, i, none⟩ from by simp [Addr.add]; omega, World.cell?_alloc_new]
                           simpa using hv
                         intro g c' w10 q1 q2 q3 q4
                         have SA := HE2.out.1.below ((Below.refl w3.heap.size w3).alloc (Nat.le_refl _) (.cells #[.int .i64 x', .int .i64 y'] 63))
                         have SB := SA.upd 4 rfl (i' := It.own 63 2 (some ⟨g, 0, none⟩) (k + 1 + 1) c' (pnts wat ++ [Value.int .i64 x', Value.int .i64 y']) [g]) q4 q1 (fun x hx => by rw [List.mem_singleton.1 hx]; rcases q2 with e | e; exact .inl e; exact .inr (Nat.le_of_eq e))
                         have hoc := SB.heap 2 rfl
                         have d2 : w10.cell? ⟨vb, 5, none⟩ = some (.slice Aw (k + 1) cw) := (cell_of_heap hoc 5).trans rfl
                         have e2 := frozen_of_heap hoc 5
                         have zq := heap_lt hoc
                         have HSB := Lib.hid SB
                         clear SA SB hoc q1 q2 q3 q4 v4 zv))
          have SF := HSB.out.set 2 rfl (w' := w10.setCell ⟨vb, 5, none⟩ (.slice (some ⟨g, 0, none⟩) (k + 1 + 1) c')) ((Keep.refl _ _).setCell (.inl (by simp)) _) (heap_set (HSB.out.heap 2 rfl) 5 _)
          go_roundg (gk - 1)
          case measure => omega
          case rel =>
            refine ⟨k + 1, x', y', wat ++ [⟨x', y'⟩], some ⟨g, 0, none⟩, c', [g], by omega, by go_num, rfl, rfl, ⟨by rw [List.length_append, hlen]; rfl, HO.out.2.1.snoc (by omega) (by omega) (by omega), up_snoc HO.out.2.2 HO.out.2.1.last (by omega)⟩, by omega, ?_⟩
            have h := SF
            simp only [pnts_snoc wat ⟨x', y'⟩] at h
            exact h
        · obtain rfl : k = nn := by omega
          obtain ⟨lw, hlt2⟩ : ∃ n, n = k + 1 := ⟨_, rfl⟩
          have HT1 := Lib.hid (And.intro (show wat.length = lw by omega) (And.intro HO.out.2 (show 1 ≤ x ∧ x ≤ 240 ∧ 2 ≤ lw ∧ lw ≤ 4 by omega)))
          have HQ := Lib.hid HO.out.1
          rw [← hlt2] at HQ
          clear HO hlt2 hbd hlen
          obtain ⟨wa, rfl⟩ : ∃ u, u = wr := ⟨_, rfl⟩
          go_upto_region 18 with fail
          have HS12 := HQ
          have hv := HS12.out.heap 2 rfl
          have v4 : wa.cell? ⟨vb, 6, none⟩ = some (.slice none 0 0) := (cell_of_heap hv 6).trans rfl
          have f4 := frozen_of_heap hv 6
          have zv := heap_lt hv
          clear hv
          go_upto_region 19 with fail
          obtain ⟨gi, hgi⟩ : ∃ b, b = wa.heap.size := ⟨_, rfl⟩
          obtain ⟨Y0, hY0⟩ : ∃ Y, Y = wa.setCell ⟨vb, 6, none⟩ (.slice (some ⟨wa.heap.size, 0, none⟩) 1 1) := ⟨_, rfl⟩
          obtain ⟨Y, hY⟩ : ∃ Y, Y = Y0.alloc (.cells #[.int .i64 0, .int .i64 0] 63) := ⟨_, rfl⟩
          rw [← hY0, ← hY, ← hgi]
          rw [← hgi] at hY0
          have hz : Y0.heap.size = gi := by rw [hY0, hgi]; simp
          have S13 : Own w.heap.size w [.blk rb (.cells #[.int .i64 0, .int .i64 0, .int .i64 0, .int .i64 0, .slice none 0 0, .slice none 0 0, .slice none 0 0, .int .i64 0, .int .i64 0, .int .i64 0, .int .i64 0] 25), .nx ib lb, .blk vb (.cells (shA s0 (At) (lt) (ct) (Aw) (lw) (cw) (some ⟨gi, 0, none⟩) (1) (1)) 25 (0, 0)), .own 63 2 (At) (lt) (ct) (pnts thr) ft, .own 63 2 (Aw) (lw) (cw) (pnts wat) fw, .own 63 2 (some ⟨gi, 0, none⟩) (1) (1) (pnts [⟨0, 0⟩]) [gi]] Y := by
            have h1 := HS12.out.set 2 rfl (w' := Y0) (by rw [hY0]; exact (Keep.refl _ _).setCell (.inl (by simp)) _) (by rw [hY0]; exact heap_set (HS12.out.heap 2 rfl) 6 _)
            have h2 := h1.upd 5 rfl (w' := Y) (i' := .own 63 2 (some ⟨gi, 0, none⟩) 1 1 (pnts [⟨0, 0⟩]) [gi]) (by rw [hY]; exact (Keep.refl _ _).alloc _) ⟨rfl, .inr ⟨gi, #[.int .i64 0, .int .i64 0], rfl, rfl, by rw [hY, ← hz]; exact heap_alloc_new _ _, Nat.le_refl _, by omega, rfl, fun j u hu => by simpa [pnt] using hu⟩⟩ (fun x hx => .inr (by rw [List.mem_singleton.1 hx]; omega))
            exact h2
          have HS13 := Lib.hid S13
          clear v4 f4 zv hY hY0 hz hgi S13
          go_upto_block 4 with (go_at_call 45; refine (next_some (4) (HS13.out.nxt 1 rfl) (by decide)).mono ?_; rintro e wn ⟨nq, rfl, ⟨nq1, nq2⟩, nx3, k3, s3⟩; have HL := Lib.hid (HS13.out.next 1 rfl nx3 k3); clear nx3 k3 s3)
          obtain ⟨nn, hnn⟩ : ∃ n : Nat, (n : Int) = nq := ⟨(nq).toNat, by omega⟩
          have hn4 : nn ≤ 3 := by omega
          rw [← hnn]
          clear hnn nq1 nq2
          go_wp2_with fail
          go_loopg [5, 6, 102] nn (fun g xv yv i wx => ∃ (k : Nat) (x y : Int) (ice : List Pnt) (Ai : Option Addr) (ci : Nat) (fi : List Nat), g + k = nn ∧ i = .int .i64 k ∧ xv = .int .i64 x ∧ yv = .int .i64 y ∧ (ice.length = k + 1 ∧ Mk ice x y ∧ Up ice ∧ ice.head? = some ⟨0, 0⟩) ∧ (((k : Int) ≤ x ∧ x ≤ 90 * (k : Int)) ∧ (0 ≤ y ∧ y ≤ 765 * (k : Int))) ∧ Own w.heap.size w [.blk rb (.cells #[.int .i64 0, .int .i64 0, .int .i64 0, .int .i64 0, .slice none 0 0, .slice none 0 0, .slice none 0 0, .int .i64 0, .int .i64 0, .int .i64 0, .int .i64 0] 25), .nx ib lb, .blk vb (.cells (shA s0 (At) (lt) (ct) (Aw) (lw) (cw) (Ai) (k + 1) (ci)) 25 (0, 0)), .own 63 2 (At) (lt) (ct) (pnts thr) ft, .own 63 2 (Aw) (lw) (cw) (pnts wat) fw, .own 63 2 (Ai) (k + 1) (ci) (pnts ice) fi] wx)
          case atStart => exact ⟨0, 0, 0, [⟨0, 0⟩], some ⟨gi, 0, none⟩, 1, [gi], rfl, rfl, rfl, rfl, ⟨rfl, Mk.one (by omega), by simp [Up], rfl⟩, by omega, HL.out⟩
          case round =>
            obtain ⟨k, x, y, ice, Ai, ci, fi, hk, rfl, rfl, rfl, hT, hbd, hO⟩ := hrel
            have HO := Lib.hid (And.intro hO hT.2)
            have hlen := hT.1
            clear hO hT
            by_cases hlt : k < nn
            · have TK := Lib.hid True.intro
              go_upto_region 22 with (first | (go_at_call 45; clear TK; refine (next_some 90 (HO.out.1.nxt 1 rfl) (by decide)).mono ?_; rintro e w2 ⟨d, rfl, ⟨d1, d2⟩, nx3, k3, s3⟩; have HD := Lib.hid (HO.out.1.next 1 rfl nx3 k3); have HF := Lib.hid True.intro; clear nx3 k3 s3) | (go_at_call 45; clear HF; refine (next_some 256 (HD.out.nxt 1 rfl) (by decide)).mono ?_; rintro e w3 ⟨e_, rfl, ⟨e1, e2⟩, nx3, k3, s3⟩; have HE := Lib.hid (HD.out.next 1 rfl nx3 k3); clear nx3 k3 s3 HD))
              obtain ⟨x', hx'⟩ : ∃ t, t = x + 1 + d := ⟨_, rfl⟩
              obtain ⟨y', hy'⟩ : ∃ t, t = y + 3 * e_ := ⟨_, rfl⟩
              rw [← hx', ← hy']
              have hxy : x < x' ∧ (((k + 1 : Nat) : Int) ≤ x' ∧ x' ≤ 90 * ((k + 1 : Nat) : Int)) ∧ (y ≤ y' ∧ y' ≤ 765 * ((k + 1 : Nat) : Int)) := by rw [hx', hy']; omega
              clear hx' hy' d1 d2 e1 e2
              have hv := HE.out.heap 2 rfl
              have v4 : w3.cell? ⟨vb, 6, none⟩ = some (.slice Ai (k + 1) ci) := (cell_of_heap hv 6).trans rfl
              have zv := heap_lt hv
              have OB : OwnS w3 63 2 Ai (k + 1) ci (pnts ice) fi := HE.out.owns 5 rfl
              have HE2 := Lib.hid (And.intro HE.out OB)
              clear OB hv HE
              go_wp2_with (at_builtin
                           (
                             refine wpList_append_S (size := 2) rfl (.tmp 115) (.tmp 119) 23 rfl iP _ 16 Tryd.underlying23 hP0 hP1 hP2 (by decide) hP3 rfl (A := Ai) (n := k + 1) (c := ci) (xs := pnts ice) (fp := fi) (by simp [Act.eval]) ⟨w3.heap.size, 0, none⟩ (by simp [Act.eval]) [.int .i64 x', .int .i64 y'] (HE2.out.2.alloc _) rfl ?_ (by simp [Value.oneCell']) (by omega) (by omega) ?_
                             · intro i v hv
                               rw [show (⟨w3.heap.size, 0, none⟩ : Addr).add i = ⟨w3.heap.size, i, none⟩ from by simp [Addr.add]; omega, World.cell?_alloc_new]
                               simpa using hv
                             intro g c' w10 q1 q2 q3 q4
                             have SA := HE2.out.1.below ((Below.refl w3.heap.size w3).alloc (Nat.le_refl _) (.cells #[.int .i64 x', .int .i64 y'] 63))
                             have SB := SA.upd 5 rfl (i' := It.own 63 2 (some ⟨g, 0, none⟩) (k + 1 + 1) c' (pnts ice ++ [Value.int .i64 x', Value.int .i64 y']) [g]) q4 q1 (fun x hx => by rw [List.mem_singleton.1 hx]; rcases q2 with e | e; exact .inl e; exact .inr (Nat.le_of_eq e))
                             have hoc := SB.heap 2 rfl
                             have d2 : w10.cell? ⟨vb, 6, none⟩ = some (.slice Ai (k + 1) ci) := (cell_of_heap hoc 6).trans rfl
                             have e2 := frozen_of_heap hoc 6
                             have zq := heap_lt hoc
                             have HSB := Lib.hid SB
                             clear SA SB hoc q1 q2 q3 q4 v4 zv))
              have SF := HSB.out.set 2 rfl (w' := w10.setCell ⟨vb, 6, none⟩ (.slice (some ⟨g, 0, none⟩) (k + 1 + 1) c')) ((Keep.refl _ _).setCell (.inl (by simp)) _) (heap_set (HSB.out.heap 2 rfl) 6 _)
              go_roundg (gk - 1)
              case measure => omega
              case rel =>
                refine ⟨k + 1, x', y', ice ++ [⟨x', y'⟩], some ⟨g, 0, none⟩, c', [g], by omega, by go_num, rfl, rfl, ⟨by rw [List.length_append, hlen]; rfl, HO.out.2.1.snoc (by omega) (by omega) (by omega), up_snoc HO.out.2.2.1 HO.out.2.1.last (by omega), by rw [List.head?_append, HO.out.2.2.2]; rfl⟩, by omega, ?_⟩
                have h := SF
                simp only [pnts_snoc ice ⟨x', y'⟩] at h
                exact h
            · obtain rfl : k = nn := by omega
              obtain ⟨li, hlt2⟩ : ∃ n, n = k + 1 := ⟨_, rfl⟩
              have HT2 := Lib.hid (And.intro (show ice.length = li by omega) (And.intro HO.out.2 (show 0 ≤ x ∧ x ≤ 270 ∧ 1 ≤ li ∧ li ≤ 4 ∧ 0 ≤ y ∧ y ≤ 2295 by omega)))
              have HQ := Lib.hid HO.out.1
              rw [← hlt2] at HQ
              clear HO hlt2 hbd hlen
              obtain ⟨A0, c0, l0, k0, hdr, hby, hln, hne, hap⟩ := HQ.out.draws 1 rfl
              obtain ⟨x0, hx0⟩ : ∃ x, x = draw l0 k0 256 := ⟨_, rfl⟩
              have r0 := draw_range (l := l0) k0 (n := 256) (by decide)
              rw [← hx0] at r0
              obtain ⟨C, hC⟩ : ∃ C : ApC, C = ⟨ib, lb, k0, A0, c0, l0, vb, 63, 2, li, Ai, ci, pnts ice, fi, pnt ⟨400, y + 4 * x0⟩, shA s0 At lt ct Aw lw cw Ai li ci, fun A c => shA s0 At lt ct Aw lw cw A (li + 1) c, 25⟩ := ⟨_, rfl⟩
              have OA : ApOk C wr := by
                subst hC
                exact HQ.out.apOk 1 2 5 rfl rfl rfl (by decide) (by decide) (by decide) hdr hby hln hne hap
              have HX := Lib.hid (And.intro hx0 (And.intro OA (And.intro hC hap)))
              have hyb : 0 ≤ y ∧ y ≤ 2295 := by have := HT2.out.2.2; omega
              have hli : li ≤ 4 := by have := HT2.out.2.2; omega
              clear hx0 OA hdr hby hln hne hap
              subst hC
              go_upto_region 24 with fail
              refine wp_region_steps (σ := ApS) (by kernel_rfl) (by kernel_rfl) (fun sg jx vx _ => Mk24V ib lb vb y x0 li Ai ci sg jx vx) (fun sg ly wx => ApW ⟨ib, lb, k0, A0, c0, l0, vb, 63, 2, li, Ai, ci, pnts ice, fi, pnt ⟨400, y + 4 * x0⟩, shA s0 At lt ct Aw lw cw Ai li ci, fun A c => shA s0 At lt ct Aw lw cw A (li + 1) c, 25⟩ 8 9 11 Mk24Cnt wr sg ly wx) ⟨0, none, 0, 0⟩ ?_ ?_ ?_
              · exact HX.out.2.1.start (by simp [Mk24Cnt])
              · simp only [AllFrom, Nat.zero_add, Nat.reduceAdd]
                refine ⟨?_, ?_, ?_, ?_, ?_, ?_, ?_, ?_, ?_, ?_, ?_, ?_, trivial⟩
                · refine step_pure fun sg ly a wx hl hd hW hF => ?_
                  have et4 := hF.old 4 (by kernel_rfl)
                  simp [Act.eval] at et4
                  exact ⟨hW.other HX.out.2.1 _ (by decide) (by simp [Mk24Cnt, upd]), .pointer (some ⟨vb, 6, none⟩), by go_simp, rfl⟩
                · refine step_pure fun sg ly a wx hl hd hW hF => ?_
                  simp [Region.binds] at hd
                  have et123 := hF.new 0 123 (by simp [hd]) rfl
                  simp [Mk24V, Act.eval] at et123
                  have nS := hF.notYet 1 11 hl (by kernel_rfl)
                  have hh := hW.hob
                  rw [if_neg (by simp [nS])] at hh
                  have cL := (cell_of_heap hh 6).trans rfl
                  have zL := heap_lt hh
                  exact ⟨hW.other HX.out.2.1 _ (by decide) (by simp [Mk24Cnt, upd]), _, by go_simp, rfl⟩
                · refine step_pure fun sg ly a wx hl hd hW hF => ?_
                  have et6 := hF.old 6 (by kernel_rfl)
                  simp [Act.eval] at et6
                  exact ⟨hW.other HX.out.2.1 _ (by decide) (by simp [Mk24Cnt, upd]), .int .i64 y, by go_simp, rfl⟩
                · refine step_pure fun sg ly a wx hl hd hW hF => ?_
                  have et3 := hF.old 3 (by kernel_rfl)
                  simp [Act.eval] at et3
                  exact ⟨hW.other HX.out.2.1 _ (by decide) (by simp [Mk24Cnt, upd]), .func (.func 45) #[] #[.pointer (some ⟨ib, 0, none⟩), .pointer (some ⟨lb, 0, none⟩)], by go_simp, rfl⟩
                · refine step_call fun sg ly a wx hl hd hW hF => ?_
                  simp [Region.binds] at hd
                  have et126 := hF.new 3 126 (by simp [hd]) rfl
                  simp [Mk24V, Act.eval] at et126
                  have hq := hW.next HX.out.2.1 (256) (by decide)
                  rw [show Mk24Cnt ly = 0 from by simp [Mk24Cnt, hl]] at hq
                  refine ⟨45, #[.int .i64 (256), .pointer (some ⟨ib, 0, none⟩), .pointer (some ⟨lb, 0, none⟩)], by go_simp, ?_⟩
                  refine hq.mono ?_
                  rintro e w2 ⟨rfl, d2, k2, s2⟩
                  exact ⟨.int .i64 x0, sg, by rw [HX.out.1] <;> rfl, hW.call HX.out.2.1 _ (by decide) (by rw [show Mk24Cnt (upd ly 4) = 1 from by simp [Mk24Cnt, upd, hl]]; exact d2) k2, rfl, fun _ _ _ h => h⟩
                · refine step_pure fun sg ly a wx hl hd hW hF => ?_
                  simp [Region.binds] at hd
                  have et127 := hF.new 4 127 (by simp [hd]) rfl
                  simp [Mk24V, Act.eval] at et127
                  have ew := IntWalk.i64_in (4 * x0) (by omega)
                  exact ⟨hW.other HX.out.2.1 _ (by decide) (by simp [Mk24Cnt, upd]), .int .i64 (4 * x0), by go_simp, rfl⟩
                · refine step_pure fun sg ly a wx hl hd hW hF => ?_
                  simp [Region.binds] at hd
                  have et125 := hF.new 2 125 (by simp [hd]) rfl
                  simp [Mk24V, Act.eval] at et125
                  have et128 := hF.new 5 128 (by simp [hd]) rfl
                  simp [Mk24V, Act.eval] at et128
                  have ew := IntWalk.i64_in (y + 4 * x0) (by omega)
                  exact ⟨hW.other HX.out.2.1 _ (by decide) (by simp [Mk24Cnt, upd]), .int .i64 (y + 4 * x0), by go_simp, rfl⟩
                · refine step_pure fun sg ly a wx hl hd hW hF => ?_
                  simp [Region.binds] at hd
                  have et129 := hF.new 6 129 (by simp [hd]) rfl
                  simp [Mk24V, Act.eval] at et129
                  exact ⟨hW.other HX.out.2.1 _ (by decide) (by simp [Mk24Cnt, upd]), .agg #[.int .i64 400, .int .i64 (y + 4 * x0)], by go_simp, rfl⟩
                · refine step_run fun sg ly a wx hl hd hW hF => ?_
                  simp [Region.binds] at hd
                  have et130 := hF.new 7 130 (by simp [hd]) rfl
                  simp [Mk24V, Act.eval] at et130
                  refine ⟨_, wx.alloc (.cells #[.int .i64 400, .int .i64 (y + 4 * x0)] 63), { sg with bs := wx.heap.size }, by go_simp, hW.build HX.out.2.1 (by decide) (by simp [Mk24Cnt, upd]), rfl, ?_⟩
                  intro i u hi h
                  have i8 : i ≠ 8 := by rintro rfl; rw [hl] at hi; cases hi
                  unfold Mk24V at h ⊢
                  split at h <;> first | exact h | exact absurd rfl i8
                · intro sg ly a wx hl hd hW hF
                  simp [Region.binds] at hd
                  have et124 := hF.new 1 124 (by simp [hd]) rfl
                  simp [Mk24V, Act.eval] at et124
                  have et131 := hF.new 8 131 (by simp [hd]) rfl
                  simp [Mk24V, Act.eval] at et131
                  have nS := hF.notYet 9 11 hl (by kernel_rfl)
                  have yB : ly 8 = true := by simp [hd]
                  refine hW.at_append HX.out.2.1 (.tmp 124) (.tmp 131) 23 rfl iP _ 16 Tryd.underlying23 hP0 hP1 hP2 (show (0 : Nat) < 2 from by decide) hP3 rfl (by simpa [Act.eval] using et124) (by simpa [Act.eval] using et131) rfl (by simp [pnt, Value.oneCell']) (by simp only; omega) (by omega) (by decide) (by simp [Mk24Cnt, upd]) yB hl nS ?_
                  intro g c' w' h'
                  refine ⟨{ sg with A := some ⟨g, 0, none⟩, c := c', g := g }, _, rfl, h', fun _ => rfl, ?_⟩
                  intro i u hi h
                  have i9 : i ≠ 9 := by rintro rfl; rw [hl] at hi; cases hi
                  unfold Mk24V at h ⊢
                  split at h <;> first | exact h | exact absurd rfl i9
                · refine step_pure fun sg ly a wx hl hd hW hF => ?_
                  have et4 := hF.old 4 (by kernel_rfl)
                  simp [Act.eval] at et4
                  exact ⟨hW.other HX.out.2.1 _ (by decide) (by simp [Mk24Cnt, upd]), .pointer (some ⟨vb, 6, none⟩), by go_simp, rfl⟩
                · refine step_store rfl fun sg ly a wx hl hd hW hF => ?_
                  simp [Region.binds] at hd
                  have et133 := hF.new 10 133 (by simp [hd]) rfl
                  simp [Mk24V, Act.eval] at et133
                  have et132 := hF.new 9 132 (by simp [hd]) rfl
                  simp [Mk24V, Act.eval] at et132
                  have yA : ly 9 = true := by simp [hd]
                  have hh := hW.hob
                  rw [if_neg (by simp [hl])] at hh
                  have cL := (cell_of_heap hh 6).trans rfl
                  have fL := frozen_of_heap hh 6
                  have zL := heap_lt hh
                  exact ⟨_, sg, .skip, by go_simp, .inl rfl, hW.store HX.out.2.1 (by decide) (by simp [Mk24Cnt, upd]) 6 (fun _ _ => rfl) yA hl, fun _ _ _ h => h⟩
              intro sg af w8 hWW hF
              obtain ⟨ff, hf, rfl⟩ := hF.lit
              have S8 := HQ.out.apDone 1 2 5 rfl rfl rfl (by decide) (by decide) (by decide) HX.out.2.2.2 HX.out.2.1 hWW rfl rfl
              have S8' : Own w.heap.size w [.blk rb (.cells #[.int .i64 0, .int .i64 0, .int .i64 0, .int .i64 0, .slice none 0 0, .slice none 0 0, .slice none 0 0, .int .i64 0, .int .i64 0, .int .i64 0, .int .i64 0] 25), .nx ib lb, .blk vb (.cells (shA s0 (At) (lt) (ct) (Aw) (lw) (cw) (sg.A) (li + 1) (sg.c)) 25 (0, 0)), .own 63 2 (At) (lt) (ct) (pnts thr) ft, .own 63 2 (Aw) (lw) (cw) (pnts wat) fw, .own 63 2 (sg.A) (li + 1) (sg.c) (pnts (ice ++ [⟨400, y + 4 * x0⟩])) [sg.g]] w8 := by
                have h := S8
                simp only [show pnts ice ++ pnt ⟨400, y + 4 * x0⟩ = pnts (ice ++ [⟨400, y + 4 * x0⟩]) from (flat_snoc _ _ _).symm] at h
                exact h
              have HS8 := Lib.hid S8'
              have hv := S8'.heap 2 rfl
              have hr := S8'.heap 0 rfl
              have v0 : w8.cell? ⟨vb, 0, none⟩ = some (.int .i64 s0.cls) := (cell_of_heap hv 0).trans rfl
              have g0 := (cell_of_heap hr 0).trans rfl
              have f0 := frozen_of_heap hr 0
              have v1 : w8.cell? ⟨vb, 1, none⟩ = some (.int .i64 s0.pow) := (cell_of_heap hv 1).trans rfl
              have g1 := (cell_of_heap hr 1).trans rfl
              have f1 := frozen_of_heap hr 1
              have v2 : w8.cell? ⟨vb, 2, none⟩ = some (.int .i64 s0.dra) := (cell_of_heap hv 2).trans rfl
              have g2 := (cell_of_heap hr 2).trans rfl
              have f2 := frozen_of_heap hr 2
              have v3 : w8.cell? ⟨vb, 3, none⟩ = some (.int .i64 s0.ton) := (cell_of_heap hv 3).trans rfl
              have g3 := (cell_of_heap hr 3).trans rfl
              have f3 := frozen_of_heap hr 3
              have v4 : w8.cell? ⟨vb, 4, none⟩ = some (.slice At lt ct) := (cell_of_heap hv 4).trans rfl
              have g4 := (cell_of_heap hr 4).trans rfl
              have f4 := frozen_of_heap hr 4
              have v5 : w8.cell? ⟨vb, 5, none⟩ = some (.slice Aw lw cw) := (cell_of_heap hv 5).trans rfl
              have g5 := (cell_of_heap hr 5).trans rfl
              have f5 := frozen_of_heap hr 5
              have v6 : w8.cell? ⟨vb, 6, none⟩ = some (.slice sg.A (li + 1) sg.c) := (cell_of_heap hv 6).trans rfl
              have g6 := (cell_of_heap hr 6).trans rfl
              have f6 := frozen_of_heap hr 6
              have v7 : w8.cell? ⟨vb, 7, none⟩ = some (.int .i64 s0.slow) := (cell_of_heap hv 7).trans rfl
              have g7 := (cell_of_heap hr 7).trans rfl
              have f7 := frozen_of_heap hr 7
              have v8 : w8.cell? ⟨vb, 8, none⟩ = some (.int .i64 s0.brash) := (cell_of_heap hv 8).trans rfl
              have g8 := (cell_of_heap hr 8).trans rfl
              have f8 := frozen_of_heap hr 8
              have v9 : w8.cell? ⟨vb, 9, none⟩ = some (.int .i64 s0.ridge) := (cell_of_heap hv 9).trans rfl
              have g9 := (cell_of_heap hr 9).trans rfl
              have f9 := frozen_of_heap hr 9
              have v10 : w8.cell? ⟨vb, 10, none⟩ = some (.int .i64 s0.press) := (cell_of_heap hv 10).trans rfl
              have g10 := (cell_of_heap hr 10).trans rfl
              have f10 := frozen_of_heap hr 10
              clear hf hF hWW S8
              have zv := heap_lt hv
              have zr := heap_lt hr
              clear hv hr S8'
              simp only [List.filterMap, List.foldl, List.setIfInBounds_toArray, List.set_cons_succ, List.set_cons_zero]
              go_wp2_with fail
              obtain ⟨wF, hwF⟩ : ∃ u, u = (((((((((((w8.setCell ⟨rb, 0, none⟩ (.int .i64 s0.cls)).setCell ⟨rb, 1, none⟩ (.int .i64 s0.pow)).setCell ⟨rb, 2, none⟩ (.int .i64 s0.dra)).setCell ⟨rb, 3, none⟩ (.int .i64 s0.ton)).setCell ⟨rb, 4, none⟩ (.slice At lt ct)).setCell ⟨rb, 5, none⟩ (.slice Aw lw cw)).setCell ⟨rb, 6, none⟩ (.slice sg.A (li + 1) sg.c)).setCell ⟨rb, 7, none⟩ (.int .i64 s0.slow)).setCell ⟨rb, 8, none⟩ (.int .i64 s0.brash)).setCell ⟨rb, 9, none⟩ (.int .i64 s0.ridge)).setCell ⟨rb, 10, none⟩ (.int .i64 s0.press)) := ⟨_, rfl⟩
              rw [← hwF]
              have hrF : wF.heap[rb]? = some (.cells (shA s0 At lt ct Aw lw cw sg.A (li + 1) sg.c) 25 (0, 0)) := by
                have h0 := HS8.out.heap 0 rfl
                have h1 := heap_set h0 0 (.int .i64 s0.cls)
                have h2 := heap_set h1 1 (.int .i64 s0.pow)
                have h3 := heap_set h2 2 (.int .i64 s0.dra)
                have h4 := heap_set h3 3 (.int .i64 s0.ton)
                have h5 := heap_set h4 4 (.slice At lt ct)
                have h6 := heap_set h5 5 (.slice Aw lw cw)
                have h7 := heap_set h6 6 (.slice sg.A (li + 1) sg.c)
                have h8 := heap_set h7 7 (.int .i64 s0.slow)
                have h9 := heap_set h8 8 (.int .i64 s0.brash)
                have h10 := heap_set h9 9 (.int .i64 s0.ridge)
                have h11 := heap_set h10 10 (.int .i64 s0.press)
                rw [hwF, h11]; simp
              have SF := HS8.out.set 0 rfl (w' := wF) (by rw [hwF]; exact (((((((((((Keep.refl _ _).setCell (.inl (by simp)) _).setCell (.inl (by simp)) _).setCell (.inl (by simp)) _).setCell (.inl (by simp)) _).setCell (.inl (by simp)) _).setCell (.inl (by simp)) _).setCell (.inl (by simp)) _).setCell (.inl (by simp)) _).setCell (.inl (by simp)) _).setCell (.inl (by simp)) _).setCell (.inl (by simp)) _) hrF
              clear hwF
              have e1 := HT0.out.1
              have e2 := HT1.out.1
              have e3 := HT2.out.1
              subst e1; subst e2; subst e3
              have hs := HB.out
              obtain ⟨S, hS⟩ : ∃ S : Shp, S = ⟨s0.cls, s0.pow, s0.dra, s0.ton, thr, wat, ice ++ [⟨400, y + 4 * x0⟩], s0.slow, s0.brash, s0.ridge, s0.press⟩ := ⟨_, rfl⟩
              have sk : shipE S = 0 := by
                rw [hS]
                obtain ⟨m1, d1⟩ := HT0.out.2.1
                obtain ⟨m2, d2⟩ := HT1.out.2.1
                obtain ⟨m3, d3, d4⟩ := HT2.out.2.1
                have b1 := HT0.out.2.2
                have b2 := HT1.out.2.2
                have b3 := HT2.out.2.2
                have m4 : Mk (ice ++ [⟨400, y + 4 * x0⟩]) 400 (y + 4 * x0) := m3.snoc (by omega) (by omega) (by omega)
                refine shipE_of ⟨m1.crv (by omega) (by omega), m2.crv (by omega) (by omega), m4.crv (by omega) (by simp; omega), d1, d2, up_snoc d3 m3.last (by omega), by simp only; omega, by simp only; omega, by simp only; omega, by simp only; omega⟩ (by show 10 ≤ Hu.endX thr ∧ Hu.endX thr ≤ 250; rw [m1.endX]; omega) (by show Hu.endX wat ≤ 250; rw [m2.endX]; omega) m4.endX (by simp only; omega) (by simp only; omega) (by simp; omega) hs.1 hs.2.1 hs.2.2.1 hs.2.2.2.1 ?_
                show ((ice ++ [⟨400, y + 4 * x0⟩] : List Pnt).headD ⟨0, 1⟩).y = 0
                rw [List.headD_eq_head?_getD, List.head?_append, d4]; rfl
              have eV : shA s0 At thr.length ct Aw wat.length cw sg.A (ice.length + 1) sg.c = shpV At ct Aw cw sg.A sg.c S := by rw [hS]; simp [shpV]
              have rr : ShR At Aw sg.A S wF := by
                have o1 := (SF.owns 3 rfl).rd
                have o2 := (SF.owns 4 rfl).rd
                have o3 := (SF.owns 5 rfl).rd
                have b1 := HT0.out.2.2
                have b2 := HT1.out.2.2
                have b3 := HT2.out.2.2
                rw [hS]
                exact ⟨o1, o2, by simpa using o3, by simp only; omega, by simp only; omega, by simp; omega⟩
              refine bodyPost_ret (shp_results (s := s0) (At := At) (Aw := Aw) (Ai := sg.A) (lt := thr.length) (ct := ct) (lw := wat.length) (cw := cw) (li := ice.length + 1) (ci := sg.c) (b := rb) (r := 2) rfl hrF _ rfl) rfl ?_
              rw [eV]
              exact ⟨At, ct, Aw, cw, sg.A, sg.c, S, rfl, sk, rr, SF.bel⟩

end Go.Proofs.YtalcinepeofmcaaDoor
