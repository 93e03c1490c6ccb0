/- hull: thrust, resistance, makes, speed (printed by wip/tools/hull2.py) -/
import Derived.Test.YtalcinepeofmcaaDoorRSp9
set_option linter.unusedVariables false
set_option linter.unusedSimpArgs false
namespace Go.Proofs.YtalcinepeofmcaaDoor
open Go Go.RowKit Sp Hu
set_option linter.unusedVariables false
set_option linter.unusedSimpArgs false

/-- a ship in its box -/
structure ShC where
  sb : Nat
  At : Option Addr
  ct : Nat
  Aw : Option Addr
  cw : Nat
  Ai : Option Addr
  ci : Nat
  s : Shp
abbrev shpV (At : Option Addr) (ct : Nat) (Aw : Option Addr) (cw : Nat) (Ai : Option Addr) (ci : Nat) (s : Shp) : Array Value := #[.int .i64 s.cls, .int .i64 s.pow, .int .i64 s.dra, .int .i64 s.ton, .slice At s.thr.length ct, .slice Aw s.wat.length cw, .slice Ai s.ice.length ci, .int .i64 s.slow, .int .i64 s.brash, .int .i64 s.ridge, .int .i64 s.press]
structure ShE (c : ShC) (w : World) : Prop where
  hs : w.heap[c.sb]? = some (.cells (shpV c.At c.ct c.Aw c.cw c.Ai c.ci c.s) 25 (0, 0))
  rt : Rd w 2 c.At c.s.thr.length (pnts c.s.thr)
  rw_ : Rd w 2 c.Aw c.s.wat.length (pnts c.s.wat)
  ri : Rd w 2 c.Ai c.s.ice.length (pnts c.s.ice)
/-- the ship is right, and her curves are short -/
structure ShL (s : Shp) : Prop where
  ok : ShOk s
  l1 : s.thr.length ≤ 8
  l2 : s.wat.length ≤ 8
  l3 : s.ice.length ≤ 8
  e1 : endX s.thr ≤ 250
section
variable {c : ShC} {w w' : World}
theorem ShE.below (h : ShE c w) (hb : Below w.heap.size w w') : ShE c w' := ⟨(hb.block _ (heap_lt h.hs)).trans h.hs, h.rt.below hb, h.rw_.below hb, h.ri.below hb⟩
theorem ShE.lt (h : ShE c w) : c.sb < w.heap.size := heap_lt h.hs
theorem Hu.Crv.pts {l : List Pnt} (h : Crv l) : ∀ p ∈ l, 0 ≤ p.x ∧ p.x ≤ 1000 ∧ 0 ≤ p.y ∧ p.y ≤ 100000 := fun p hp => by have := h.rng p hp; omega
end
set_option maxRecDepth 100000 in
set_option maxHeartbeats 4000000 in
theorem thrust_any (c : ShC) (v : Int) (w : World) (E : ShE c w) (L : ShL c.s) (hv : 0 ≤ v ∧ v ≤ 1000) :
    Calls Tryd.prog 99 #[.pointer (some ⟨c.sb, 0, none⟩), .int .i64 v] w fun e w' => e = .returned (.int .i64 (thrS c.s v)) ∧ Below w.heap.size w w' := by
  have c4 := (cell_of_heap E.hs 4).trans rfl
  have zs := E.lt
  obtain ⟨n, hn⟩ : ∃ n, n = (val c.s.thr v).1 := ⟨_, rfl⟩
  obtain ⟨d, hd⟩ : ∃ n, n = (val c.s.thr v).2 := ⟨_, rfl⟩
  have kv : Calls Tryd.prog 101 #[.slice c.At c.s.thr.length c.ct, .int .i64 v] w fun e w' => e = .returned (.tuple #[.int .i64 n, .int .i64 d]) ∧ Below w.heap.size w w' := by
    rw [hn, hd]; exact value_any c.At c.ct c.s.thr v w E.rt (by have := L.ok.thr.two; omega) (by have := L.l1; omega) (by omega) L.ok.thr.pts
  obtain ⟨d1, d2, n1, n2⟩ := L.ok.thr.at hv.1
  rw [← hd] at d1 d2 n2
  rw [← hn] at n1 n2
  have hq : thrS c.s v = n / d := by unfold thrS; rw [hn, hd]
  have hn6 : n ≤ 8000000 := by omega
  have hqb : 0 ≤ n / d ∧ n / d ≤ n := ⟨Int.ediv_nonneg n1 (by omega), Int.ediv_le_self d n1⟩
  have hdz : ¬ (d = 0) := by omega
  have e0 : n.tdiv d = n / d := Int.tdiv_eq_ediv_of_nonneg n1
  have hqt : 0 ≤ n.tdiv d ∧ n.tdiv d ≤ n := by rw [e0]; exact hqb
  rw [hq, ← e0]
  have KV := Lib.hid kv
  clear kv hn hd E L hq hqb e0
  go_enter Tryd.func99, Tryd.ntmps99
  go_wp2_with (go_at_call 101; refine KV.out.mono ?_; rintro e w' ⟨rfl, b1⟩; have HB := Lib.hid b1; clear b1 c4 zs)
  go_ret
  exact ⟨rfl, HB.out⟩

set_option linter.unusedVariables false
def Hr2V (rb sb li ci : Nat) (Ai : Option Addr) (tk n d : Int) (s : Unit) : Nat → Value → Prop
  | 0, v => v = .pointer (some ⟨rb, 0, none⟩)
  | 1, v => v = .pointer (some ⟨sb, 0, none⟩)
  | 2, v => v = .pointer (some ⟨sb, 0, none⟩)
  | 3, v => v = .pointer (some ⟨sb, 6, none⟩)
  | 4, v => v = .slice Ai li ci
  | 5, v => v = .pointer (some ⟨rb, 1, none⟩)
  | 6, v => v = .pointer (some ⟨rb, 2, none⟩)
  | 7, v => v = .int .i64 tk
  | 8, v => v = .tuple #[.int .i64 n, .int .i64 d]
  | 9, v => v = .tuple #[.int .i64 n, .int .i64 d]
  | 10, v => v = .int .i64 n
  | 11, v => v = .int .i64 d
  | 12, v => v = .int .i64 n
  | 13, v => v = .int .i64 d
  | _, _ => True
set_option maxRecDepth 100000 in
set_option maxHeartbeats 4000000 in
theorem resist_any (c : ShC) (i : Ic) (ch : Bool) (v : Int) (w : World) (E : ShE c w) (L : ShL c.s) (hi : IcOk i) (hv : 0 ≤ v ∧ v ≤ 1000) :
    Calls Tryd.prog 100 #[.agg #[.pointer (some ⟨c.sb, 0, none⟩), .int .i64 i.con, .int .i64 i.thk, .int .i64 i.rid, .int .i64 i.prs, .bool ch], .int .i64 v] w fun e w' => e = .returned (.int .i64 (res c.s i ch v)) ∧ Below w.heap.size w w' := by
  obtain ⟨W, hW⟩ : ∃ W, W = w.alloc (.cells #[.pointer (some ⟨c.sb, 0, none⟩), .int .i64 i.con, .int .i64 i.thk, .int .i64 i.rid, .int .i64 i.prs, .bool ch] 79) := ⟨_, rfl⟩
  obtain ⟨rb, hrb⟩ : ∃ b, b = w.heap.size := ⟨_, rfl⟩
  have O0 : Own w.heap.size w [.blk rb (.cells #[.pointer (some ⟨c.sb, 0, none⟩), .int .i64 i.con, .int .i64 i.thk, .int .i64 i.rid, .int .i64 i.prs, .bool ch] 79)] W := by
    have h := (Own.start w).alloc (.cells #[.pointer (some ⟨c.sb, 0, none⟩), .int .i64 i.con, .int .i64 i.thk, .int .i64 i.rid, .int .i64 i.prs, .bool ch] 79)
    rw [hW, hrb]; simpa using h
  obtain ⟨wn, hwn⟩ : ∃ n, n = (val c.s.wat v).1 := ⟨_, rfl⟩
  obtain ⟨wd, hwd⟩ : ∃ n, n = (val c.s.wat v).2 := ⟨_, rfl⟩
  obtain ⟨n, hn⟩ : ∃ n, n = (val c.s.ice i.thk).1 := ⟨_, rfl⟩
  obtain ⟨d, hd⟩ : ∃ n, n = (val c.s.ice i.thk).2 := ⟨_, rfl⟩
  have kw : Calls Tryd.prog 101 #[.slice c.Aw c.s.wat.length c.cw, .int .i64 v] W fun e w' => e = .returned (.tuple #[.int .i64 wn, .int .i64 wd]) ∧ Below W.heap.size W w' := by
    rw [hwn, hwd]; exact value_any c.Aw c.cw c.s.wat v W (E.below O0.bel).rw_ (by have := L.ok.wat.two; omega) (by have := L.l2; omega) (by omega) L.ok.wat.pts
  obtain ⟨y1, y2, y3, y4⟩ := L.ok.wat.at hv.1
  obtain ⟨t1, t2, t3, t4⟩ := L.ok.ice.at hi.thk.1
  rw [← hwd] at y1 y2 y4
  rw [← hwn] at y3 y4
  rw [← hd] at t1 t2 t4
  rw [← hn] at t3 t4
  have E1 := E.below O0.bel
  have c5 := (cell_of_heap E1.hs 5).trans rfl
  have zs := E1.lt
  have g0 := (cell_of_heap (O0.heap 0 rfl) 0).trans rfl
  have zr := heap_lt (O0.heap 0 rfl)
  have HH := Lib.hid (And.intro hwn (And.intro hwd (And.intro hn (And.intro hd (And.intro E (And.intro L hi))))))
  have H0 := Lib.hid (And.intro O0 kw)
  have a1 := L.ok.slow
  have a2 := L.ok.brash
  have a3 := L.ok.ridge
  have a4 := L.ok.press
  obtain ⟨i1, i2, i3, i4⟩ := hi
  clear hwn hwd hn hd E L O0 kw E1
  go_enter Tryd.func100, Tryd.ntmps100
  go_upto_region 1 with fail
  rw [← hW, ← hrb]
  clear hW hrb
  go_upto_region 2 with (go_at_call 101; refine H0.out.2.mono ?_; rintro e w1 ⟨rfl, b1⟩; have H1 := Lib.hid b1; clear b1 c5 zs g0 zr)
  have kv : ∀ wx, Below w.heap.size w wx → Calls Tryd.prog 101 #[.slice c.Ai c.s.ice.length c.ci, .int .i64 i.thk] wx fun e w' => e = .returned (.tuple #[.int .i64 n, .int .i64 d]) ∧ Below wx.heap.size wx w' := fun wx hb => by
    rw [HH.out.2.2.1, HH.out.2.2.2.1]; exact value_any c.Ai c.ci c.s.ice i.thk wx (HH.out.2.2.2.2.1.below hb).ri (by have := HH.out.2.2.2.2.2.1.ok.ice.two; omega) (by have := HH.out.2.2.2.2.2.1.l3; omega) (by omega) HH.out.2.2.2.2.2.1.ok.ice.pts
  have HA := Lib.hid (And.intro HH.out.2.2.2.2.1 kv)
  have O1 := Lib.hid (H0.out.1.below H1.out)
  clear kv
  refine wp_region_steps (σ := Unit) (by kernel_rfl) (by kernel_rfl) (fun sg jx vx _ => Hr2V rb c.sb c.s.ice.length c.ci c.Ai i.thk n d sg jx vx) (fun sg ly wx => Own w.heap.size w [It.blk rb (.cells #[.pointer (some ⟨c.sb, 0, none⟩), .int .i64 i.con, .int .i64 i.thk, .int .i64 i.rid, .int .i64 i.prs, .bool ch] 79)] wx) () ?_ ?_ ?_
  · exact O1.out.drew
  · simp only [AllFrom, Nat.zero_add, Nat.reduceAdd]
    refine ⟨?_, ?_, ?_, ?_, ?_, ?_, ?_, ?_, ?_, ?_, ?_, ?_, ?_, ?_, trivial⟩
    · refine step_pure fun sg ly act wx hl hd hW hF => ?_
      have et2 := hF.old 2 (by kernel_rfl)
      simp [Act.eval] at et2
      exact ⟨hW, .pointer (some ⟨rb, 0, none⟩), by go_simp, rfl⟩
    · refine step_pure fun sg ly act wx hl hd hW hF => ?_
      simp [Region.binds] at hd
      have et23 := hF.new 0 23 (by simp [hd]) rfl
      simp [Hr2V, Act.eval] at et23
      have hO := hW
      try dsimp only at hO
      have hh := hO.heap 0 rfl
      have clq0 := (cell_of_heap hh 0).trans rfl
      have clq1 := (cell_of_heap hh 1).trans rfl
      have clq2 := (cell_of_heap hh 2).trans rfl
      have clq3 := (cell_of_heap hh 3).trans rfl
      have clq4 := (cell_of_heap hh 4).trans rfl
      have clq5 := (cell_of_heap hh 5).trans rfl
      have zz := heap_lt hh
      exact ⟨hW, .pointer (some ⟨c.sb, 0, none⟩), by go_simp, rfl⟩
    · refine step_pure fun sg ly act wx hl hd hW hF => ?_
      simp [Region.binds] at hd
      have et24 := hF.new 1 24 (by simp [hd]) rfl
      simp [Hr2V, Act.eval] at et24
      have hO := hW
      have zs := (HA.out.1.below hO.bel).lt
      exact ⟨hW, .pointer (some ⟨c.sb, 0, none⟩), by go_simp, rfl⟩
    · refine step_pure fun sg ly act wx hl hd hW hF => ?_
      simp [Region.binds] at hd
      have et25 := hF.new 2 25 (by simp [hd]) rfl
      simp [Hr2V, Act.eval] at et25
      have hO := hW
      have zs := (HA.out.1.below hO.bel).lt
      exact ⟨hW, .pointer (some ⟨c.sb, 6, none⟩), by go_simp, rfl⟩
    · refine step_pure fun sg ly act wx hl hd hW hF => ?_
      simp [Region.binds] at hd
      have et26 := hF.new 3 26 (by simp [hd]) rfl
      simp [Hr2V, Act.eval] at et26
      have hO := hW
      have c6 := (cell_of_heap (HA.out.1.below hO.bel).hs 6).trans rfl
      have zs := (HA.out.1.below hO.bel).lt
      exact ⟨hW, .slice c.Ai c.s.ice.length c.ci, by go_simp, rfl⟩
    · refine step_pure fun sg ly act wx hl hd hW hF => ?_
      have et2 := hF.old 2 (by kernel_rfl)
      simp [Act.eval] at et2
      exact ⟨hW, .pointer (some ⟨rb, 1, none⟩), by go_simp, rfl⟩
    · refine step_pure fun sg ly act wx hl hd hW hF => ?_
      simp [Region.binds] at hd
      have et28 := hF.new 5 28 (by simp [hd]) rfl
      simp [Hr2V, Act.eval] at et28
      exact ⟨hW, .pointer (some ⟨rb, 2, none⟩), by go_simp, rfl⟩
    · refine step_pure fun sg ly act wx hl hd hW hF => ?_
      simp [Region.binds] at hd
      have et29 := hF.new 6 29 (by simp [hd]) rfl
      simp [Hr2V, Act.eval] at et29
      have hO := hW
      try dsimp only at hO
      have hh := hO.heap 0 rfl
      have clq0 := (cell_of_heap hh 0).trans rfl
      have clq1 := (cell_of_heap hh 1).trans rfl
      have clq2 := (cell_of_heap hh 2).trans rfl
      have clq3 := (cell_of_heap hh 3).trans rfl
      have clq4 := (cell_of_heap hh 4).trans rfl
      have clq5 := (cell_of_heap hh 5).trans rfl
      have zz := heap_lt hh
      exact ⟨hW, .int .i64 i.thk, by go_simp, rfl⟩
    · refine step_call fun sg ly act wx hl hd hW hF => ?_
      simp [Region.binds] at hd
      have et27 := hF.new 4 27 (by simp [hd]) rfl
      simp [Hr2V, Act.eval] at et27
      have et30 := hF.new 7 30 (by simp [hd]) rfl
      simp [Hr2V, Act.eval] at et30
      have hO := hW
      try dsimp only at hO
      refine ⟨101, #[.slice c.Ai c.s.ice.length c.ci, .int .i64 i.thk], by go_simp, ?_⟩
      refine (HA.out.2 wx hO.bel).mono ?_
      rintro e w2 ⟨rfl, hb⟩
      exact ⟨_, sg, rfl, Own.below hW hb, rfl, fun _ _ _ h => h⟩
    · refine step_pure fun sg ly act wx hl hd hW hF => ?_
      simp [Region.binds] at hd
      have et31 := hF.new 8 31 (by simp [hd]) rfl
      simp [Hr2V, Act.eval] at et31
      exact ⟨hW, .tuple #[.int .i64 n, .int .i64 d], by go_simp, rfl⟩
    · refine step_pure fun sg ly act wx hl hd hW hF => ?_
      simp [Region.binds] at hd
      have et22 := hF.new 9 22 (by simp [hd]) rfl
      simp [Hr2V, Act.eval] at et22
      exact ⟨hW, .int .i64 n, by go_simp, rfl⟩
    · refine step_pure fun sg ly act wx hl hd hW hF => ?_
      simp [Region.binds] at hd
      have et22 := hF.new 9 22 (by simp [hd]) rfl
      simp [Hr2V, Act.eval] at et22
      exact ⟨hW, .int .i64 d, by go_simp, rfl⟩
    · refine step_pure fun sg ly act wx hl hd hW hF => ?_
      simp [Region.binds] at hd
      have et32 := hF.new 10 32 (by simp [hd]) rfl
      simp [Hr2V, Act.eval] at et32
      exact ⟨hW, .int .i64 n, by go_simp, rfl⟩
    · refine step_pure fun sg ly act wx hl hd hW hF => ?_
      simp [Region.binds] at hd
      have et33 := hF.new 11 33 (by simp [hd]) rfl
      simp [Hr2V, Act.eval] at et33
      exact ⟨hW, .int .i64 d, by go_simp, rfl⟩
  intro sg af w4 hWW hF
  have e7 := hF.new 12 7 (by decide) rfl
  have e8 := hF.new 13 8 (by decide) rfl
  obtain ⟨ff, hf, rfl⟩ := hF.lit
  rw [← hf] at e7 e8
  simp only [Hr2V] at e7 e8
  have O4 : Own w.heap.size w [It.blk rb (.cells #[.pointer (some ⟨c.sb, 0, none⟩), .int .i64 i.con, .int .i64 i.thk, .int .i64 i.rid, .int .i64 i.prs, .bool ch] 79)] w4 := hWW
  have H4 := Lib.hid O4
  have hrb4 := O4.heap 0 rfl
  have g0 := (cell_of_heap hrb4 0).trans rfl
  have g1 := (cell_of_heap hrb4 1).trans rfl
  have g2 := (cell_of_heap hrb4 2).trans rfl
  have g3 := (cell_of_heap hrb4 3).trans rfl
  have g4 := (cell_of_heap hrb4 4).trans rfl
  have g5 := (cell_of_heap hrb4 5).trans rfl
  have zr := heap_lt hrb4
  clear hWW hF hf O4 hrb4
  simp only [List.filterMap, List.foldl, List.setIfInBounds_toArray, List.set_cons_succ, List.set_cons_zero, e7, e8]
  clear e7 e8
  go_wp2_with fail
  go_quiet (fail)
  clear g0 g1 g2 g3 g4 g5 zr
  obtain ⟨w5, hw5⟩ : ∃ q, q = w4.drewN nq := ⟨_, rfl⟩
  rw [← hw5]
  have O5 : Own w.heap.size w [.blk rb (.cells #[.pointer (some ⟨c.sb, 0, none⟩), .int .i64 i.con, .int .i64 i.thk, .int .i64 i.rid, .int .i64 i.prs, .bool ch] 79)] w5 := by rw [hw5]; exact H4.out.below (below_drewN (Below.refl _ _) _)
  have E5 := HH.out.2.2.2.2.1.below O5.bel
  have hrb5 := O5.heap 0 rfl
  have g0 := (cell_of_heap hrb5 0).trans rfl
  have g1 := (cell_of_heap hrb5 1).trans rfl
  have g2 := (cell_of_heap hrb5 2).trans rfl
  have g3 := (cell_of_heap hrb5 3).trans rfl
  have g4 := (cell_of_heap hrb5 4).trans rfl
  have g5 := (cell_of_heap hrb5 5).trans rfl
  have zr := heap_lt hrb5
  have s7 := (cell_of_heap E5.hs 7).trans rfl
  have s8 := (cell_of_heap E5.hs 8).trans rfl
  have s9 := (cell_of_heap E5.hs 9).trans rfl
  have s10 := (cell_of_heap E5.hs 10).trans rfl
  have zs := E5.lt
  have H5 := Lib.hid O5
  clear hw5 O5 E5 hrb5
  cases ch
  · go_wp2_with fail
    have b1 := mul_bd (A := 20) (B := 1000) (a := c.s.slow) (b := v) (by omega) (by omega)
    have p1 : 0 ≤ c.s.slow * v := Int.mul_nonneg a1.1 hv.1
    have b2 := mul_bd (A := 8000000) (B := 21000) (a := n) (b := 1000 + c.s.slow * v) (by omega) (by omega)
    have p2 : 0 ≤ n * (1000 + c.s.slow * v) := Int.mul_nonneg t3 (by omega)
    have b3 := mul_bd (A := 168000000000) (B := 100) (a := n * (1000 + c.s.slow * v)) (b := 100) (by omega) (by omega)
    have p3 : 0 ≤ n * (1000 + c.s.slow * v) * 100 := Int.mul_nonneg p2 (by omega)
    have b4 := mul_bd (A := 500) (B := 100) (a := c.s.ridge) (b := i.rid) (by omega) (by omega)
    have p4 : 0 ≤ c.s.ridge * i.rid := Int.mul_nonneg a3.1 (by omega)
    have b5 := mul_bd (A := 50000) (B := 400) (a := c.s.ridge * i.rid) (b := d) (by omega) (by omega)
    have p5 : 0 ≤ c.s.ridge * i.rid * d := Int.mul_nonneg p4 (by omega)
    have b6 := mul_bd (A := 100) (B := 20000000000000) (a := i.con) (b := n * (1000 + c.s.slow * v) * 100 + c.s.ridge * i.rid * d * 100000) (by omega) (by omega)
    have p6 : 0 ≤ i.con * (n * (1000 + c.s.slow * v) * 100 + c.s.ridge * i.rid * d * 100000) := Int.mul_nonneg i1.1 (by omega)
    go_quiet (fail)
    obtain ⟨N, hN⟩ : ∃ y, y = i.con * (n * (1000 + c.s.slow * v) * 100 + c.s.ridge * i.rid * d * 100000) := ⟨_, rfl⟩
    have hN0 : 0 ≤ N ∧ N ≤ 2000000000000000 := by omega
    have hNr : N = resN c.s i false v := by rw [hN]; unfold resN; rw [← HH.out.2.2.1, ← HH.out.2.2.2.1]; simp
    rw [← hN]
    have HN := Lib.hid hNr
    clear b1 p1 b2 p2 b3 p3 b4 p4 b5 p5 b6 p6 hN hNr g0 g1 g2 g3 g4 g5 zr s7 s8 s9 s10 zs
    obtain ⟨w6, hw6⟩ : ∃ q, q = w5.drewN nq := ⟨_, rfl⟩
    rw [← hw6]
    have O6 := H5.out.below (below_drewN (Below.refl w5.heap.size w5) nq)
    rw [← hw6] at O6
    have E6 := HH.out.2.2.2.2.1.below O6.bel
    have hrb6 := O6.heap 0 rfl
    have g0 := (cell_of_heap hrb6 0).trans rfl
    have g4 := (cell_of_heap hrb6 4).trans rfl
    have zr := heap_lt hrb6
    have s10 := (cell_of_heap E6.hs 10).trans rfl
    have zs := E6.lt
    have H6 := Lib.hid O6.bel
    clear hw6 O6 E6 hrb6
    go_upto_region 8 with fail
    obtain ⟨D, hD⟩ : ∃ y, y = d * 10000000 := ⟨_, rfl⟩
    rw [← hD]
    have hDb : 10000000 ≤ D ∧ D ≤ 4000000000 := by omega
    have HD := Lib.hid hD
    clear hD
    have b1 := mul_bd (A := 8000000) (B := 4000000000) (a := wn) (b := D) (by omega) (by omega)
    have p1 : 0 ≤ wn * D := Int.mul_nonneg y3 (by omega)
    have b2 := mul_bd (A := 2000000000000000) (B := 400) (a := N) (b := wd) (by omega) (by omega)
    have p2 : 0 ≤ N * wd := Int.mul_nonneg hN0.1 (by omega)
    have b3 := mul_bd (A := 5000) (B := 3) (a := c.s.press) (b := i.prs) (by omega) (by omega)
    have p3 : 0 ≤ c.s.press * i.prs := Int.mul_nonneg a4.1 (by omega)
    have b4 := mul_bd (A := 15000) (B := 400) (a := c.s.press * i.prs) (b := wd) (by omega) (by omega)
    have p4 : 0 ≤ c.s.press * i.prs * wd := Int.mul_nonneg p3 (by omega)
    have b5 := mul_bd (A := 6000000) (B := 4000000000) (a := c.s.press * i.prs * wd) (b := D) (by omega) (by omega)
    have p5 : 0 ≤ c.s.press * i.prs * wd * D := Int.mul_nonneg p4 (by omega)
    go_quiet (fail)
    obtain ⟨T, hT⟩ : ∃ y, y = wn * D + N * wd + c.s.press * i.prs * wd * D := ⟨_, rfl⟩
    have hTb : 0 ≤ T ∧ T ≤ 900000000000000000 := by omega
    have b6 := mul_bd (A := 400) (B := 4000000000) (a := wd) (b := D) (by omega) (by omega)
    have p6 : 1 ≤ wd * D := Int.mul_pos y1 (by omega)
    obtain ⟨B, hB⟩ : ∃ y, y = wd * D := ⟨_, rfl⟩
    rw [← hB] at b6 p6
    have e0 : (T + B - 1).tdiv B = (T + B - 1) / B := Int.tdiv_eq_ediv_of_nonneg (by omega)
    have hq : 0 ≤ (T + B - 1) / B ∧ (T + B - 1) / B ≤ T + B - 1 := ⟨Int.ediv_nonneg (by omega) (by omega), Int.ediv_le_self B (by omega)⟩
    have hqt : 0 ≤ (T + B - 1).tdiv B ∧ (T + B - 1).tdiv B ≤ T + B - 1 := by rw [e0]; exact hq
    have hBz : ¬ (B = 0) := by omega
    have hres : (T + B - 1).tdiv B = res c.s i false v := by rw [e0]; unfold res resA resB resD; rw [← HN.out, ← HH.out.1, ← HH.out.2.1, ← HH.out.2.2.2.1, ← HD.out, ← hB, ← hT]
    have HR := Lib.hid hres
    rw [← hT]
    rw [hB] at b6 p6 hqt hBz
    have HB := Lib.hid hB
    clear b1 p1 b2 p2 b3 p3 b4 p4 b5 p5 hT hres e0 hq hB
    go_wp2_with fail
    go_ret
    exact ⟨by rw [← HR.out, HB.out]; rfl, below_drewN H6.out _⟩
  · go_wp2_with fail
    have b1 := mul_bd (A := 20) (B := 1000) (a := c.s.slow) (b := v) (by omega) (by omega)
    have p1 : 0 ≤ c.s.slow * v := Int.mul_nonneg a1.1 hv.1
    have b2 := mul_bd (A := 8000000) (B := 21000) (a := n) (b := 1000 + c.s.slow * v) (by omega) (by omega)
    have p2 : 0 ≤ n * (1000 + c.s.slow * v) := Int.mul_nonneg t3 (by omega)
    have b3 := mul_bd (A := 168000000000) (B := 100) (a := n * (1000 + c.s.slow * v)) (b := c.s.brash) (by omega) (by omega)
    have p3 : 0 ≤ n * (1000 + c.s.slow * v) * c.s.brash := Int.mul_nonneg p2 (by omega)
    have b6 := mul_bd (A := 100) (B := 20000000000000) (a := i.con) (b := n * (1000 + c.s.slow * v) * c.s.brash) (by omega) (by omega)
    have p6 : 0 ≤ i.con * (n * (1000 + c.s.slow * v) * c.s.brash) := Int.mul_nonneg i1.1 (by omega)
    go_quiet (fail)
    obtain ⟨N, hN⟩ : ∃ y, y = i.con * (n * (1000 + c.s.slow * v) * c.s.brash) := ⟨_, rfl⟩
    have hN0 : 0 ≤ N ∧ N ≤ 2000000000000000 := by omega
    have hNr : N = resN c.s i true v := by rw [hN]; unfold resN; rw [← HH.out.2.2.1]; simp
    rw [← hN]
    have HN := Lib.hid hNr
    clear b1 p1 b2 p2 b3 p3 b6 p6 hN hNr g0 g1 g2 g3 g4 g5 zr s7 s8 s9 s10 zs
    obtain ⟨w6, hw6⟩ : ∃ q, q = w5.drewN nq := ⟨_, rfl⟩
    rw [← hw6]
    have O6 := H5.out.below (below_drewN (Below.refl w5.heap.size w5) nq)
    rw [← hw6] at O6
    have E6 := HH.out.2.2.2.2.1.below O6.bel
    have hrb6 := O6.heap 0 rfl
    have g0 := (cell_of_heap hrb6 0).trans rfl
    have g4 := (cell_of_heap hrb6 4).trans rfl
    have zr := heap_lt hrb6
    have s10 := (cell_of_heap E6.hs 10).trans rfl
    have zs := E6.lt
    have H6 := Lib.hid O6.bel
    clear hw6 O6 E6 hrb6
    go_upto_region 8 with fail
    obtain ⟨D, hD⟩ : ∃ y, y = d * 10000000 := ⟨_, rfl⟩
    rw [← hD]
    have hDb : 10000000 ≤ D ∧ D ≤ 4000000000 := by omega
    have HD := Lib.hid hD
    clear hD
    have b1 := mul_bd (A := 8000000) (B := 4000000000) (a := wn) (b := D) (by omega) (by omega)
    have p1 : 0 ≤ wn * D := Int.mul_nonneg y3 (by omega)
    have b2 := mul_bd (A := 2000000000000000) (B := 400) (a := N) (b := wd) (by omega) (by omega)
    have p2 : 0 ≤ N * wd := Int.mul_nonneg hN0.1 (by omega)
    have b3 := mul_bd (A := 5000) (B := 3) (a := c.s.press) (b := i.prs) (by omega) (by omega)
    have p3 : 0 ≤ c.s.press * i.prs := Int.mul_nonneg a4.1 (by omega)
    have b4 := mul_bd (A := 15000) (B := 400) (a := c.s.press * i.prs) (b := wd) (by omega) (by omega)
    have p4 : 0 ≤ c.s.press * i.prs * wd := Int.mul_nonneg p3 (by omega)
    have b5 := mul_bd (A := 6000000) (B := 4000000000) (a := c.s.press * i.prs * wd) (b := D) (by omega) (by omega)
    have p5 : 0 ≤ c.s.press * i.prs * wd * D := Int.mul_nonneg p4 (by omega)
    go_quiet (fail)
    obtain ⟨T, hT⟩ : ∃ y, y = wn * D + N * wd + c.s.press * i.prs * wd * D := ⟨_, rfl⟩
    have hTb : 0 ≤ T ∧ T ≤ 900000000000000000 := by omega
    have b6 := mul_bd (A := 400) (B := 4000000000) (a := wd) (b := D) (by omega) (by omega)
    have p6 : 1 ≤ wd * D := Int.mul_pos y1 (by omega)
    obtain ⟨B, hB⟩ : ∃ y, y = wd * D := ⟨_, rfl⟩
    rw [← hB] at b6 p6
    have e0 : (T + B - 1).tdiv B = (T + B - 1) / B := Int.tdiv_eq_ediv_of_nonneg (by omega)
    have hq : 0 ≤ (T + B - 1) / B ∧ (T + B - 1) / B ≤ T + B - 1 := ⟨Int.ediv_nonneg (by omega) (by omega), Int.ediv_le_self B (by omega)⟩
    have hqt : 0 ≤ (T + B - 1).tdiv B ∧ (T + B - 1).tdiv B ≤ T + B - 1 := by rw [e0]; exact hq
    have hBz : ¬ (B = 0) := by omega
    have hres : (T + B - 1).tdiv B = res c.s i true v := by rw [e0]; unfold res resA resB resD; rw [← HN.out, ← HH.out.1, ← HH.out.2.1, ← HH.out.2.2.2.1, ← HD.out, ← hB, ← hT]
    have HR := Lib.hid hres
    rw [← hT]
    rw [hB] at b6 p6 hqt hBz
    have HB := Lib.hid hB
    clear b1 p1 b2 p2 b3 p3 b4 p4 b5 p5 hT hres e0 hq hB
    go_wp2_with fail
    go_ret
    exact ⟨by rw [← HR.out, HB.out]; rfl, below_drewN H6.out _⟩

set_option linter.unusedVariables false
def HmkV (rb sb lt ct : Nat) (At : Option Addr) (rv : Array Value) (vv en t r : Int) (z : Bool) (s : Unit) : Nat → Value → Prop
  | 0, v => v = .int .i64 vv
  | 1, v => v = .pointer (some ⟨rb, 0, none⟩)
  | 2, v => v = .pointer (some ⟨sb, 0, none⟩)
  | 3, v => v = .pointer (some ⟨sb, 0, none⟩)
  | 4, v => v = .pointer (some ⟨sb, 4, none⟩)
  | 5, v => v = .slice At lt ct
  | 6, v => v = .int .i64 en
  | 7, v => v = .bool true
  | 8, v => v = .bool true
  | 9, v => v = .pointer (some ⟨rb, 0, none⟩)
  | 10, v => v = .pointer (some ⟨sb, 0, none⟩)
  | 11, v => v = .int .i64 vv
  | 12, v => v = .int .i64 t
  | 13, v => v = .agg rv
  | 14, v => v = .int .i64 vv
  | 15, v => v = .int .i64 r
  | 16, v => v = .bool z
  | 17, v => v = .bool z
  | 18, v => v = .bool z
  | _, _ => True
set_option maxRecDepth 100000 in
set_option maxHeartbeats 4000000 in
theorem makes_any (c : ShC) (i : Ic) (ch : Bool) (v : Int) (w : World) (E : ShE c w) (L : ShL c.s) (hi : IcOk i) (hv : 0 ≤ v ∧ v ≤ 1000) :
    Calls Tryd.prog 96 #[.agg #[.pointer (some ⟨c.sb, 0, none⟩), .int .i64 i.con, .int .i64 i.thk, .int .i64 i.rid, .int .i64 i.prs, .bool ch], .int .i64 v] w fun e w' => e = .returned (.bool (makes c.s i ch v)) ∧ Below w.heap.size w w' := by
  obtain ⟨W, hW⟩ : ∃ W, W = w.alloc (.cells #[.pointer (some ⟨c.sb, 0, none⟩), .int .i64 i.con, .int .i64 i.thk, .int .i64 i.rid, .int .i64 i.prs, .bool ch] 79) := ⟨_, rfl⟩
  obtain ⟨rb, hrb⟩ : ∃ b, b = w.heap.size := ⟨_, rfl⟩
  have O0 : Own w.heap.size w [.blk rb (.cells #[.pointer (some ⟨c.sb, 0, none⟩), .int .i64 i.con, .int .i64 i.thk, .int .i64 i.rid, .int .i64 i.prs, .bool ch] 79)] W := by
    have h := (Own.start w).alloc (.cells #[.pointer (some ⟨c.sb, 0, none⟩), .int .i64 i.con, .int .i64 i.thk, .int .i64 i.rid, .int .i64 i.prs, .bool ch] 79)
    rw [hW, hrb]; simpa using h
  obtain ⟨en, hen⟩ : ∃ y, y = endX c.s.thr := ⟨_, rfl⟩
  obtain ⟨t, ht⟩ : ∃ y, y = thrS c.s v := ⟨_, rfl⟩
  obtain ⟨r, hr⟩ : ∃ y, y = res c.s i ch v := ⟨_, rfl⟩
  obtain ⟨z, hz⟩ : ∃ z, decide (r ≤ t) = z := ⟨_, rfl⟩
  have ke : ∀ wx, Below w.heap.size w wx → Calls Tryd.prog 92 #[.slice c.At c.s.thr.length c.ct] wx fun e w' => e = .returned (.int .i64 en) ∧ Below wx.heap.size wx w' := fun wx hb => by
    rw [hen]
    refine (huend_any c.At c.ct c.s.thr wx (E.below hb).rt (by have := L.ok.thr.two; omega) (by have := L.l1; omega)).mono ?_
    rintro e w' ⟨h1, h2⟩
    rw [← h2]
    exact ⟨h1, Below.refl _ _⟩
  have keq : ∀ wx, Below w.heap.size w wx → Calls Tryd.prog 92 #[.slice c.At c.s.thr.length c.ct] wx fun e w' => e = .returned (.int .i64 en) ∧ w' = wx := fun wx hb => by
    rw [hen]; exact (huend_any c.At c.ct c.s.thr wx (E.below hb).rt (by have := L.ok.thr.two; omega) (by have := L.l1; omega)).mono fun e w' h => ⟨h.1, h.2.symm⟩
  have kt : ∀ wx, Below w.heap.size w wx → Calls Tryd.prog 99 #[.pointer (some ⟨c.sb, 0, none⟩), .int .i64 v] wx fun e w' => e = .returned (.int .i64 t) ∧ Below wx.heap.size wx w' := fun wx hb => by
    rw [ht]; exact thrust_any c v wx (E.below hb) L hv
  have kr : ∀ wx, Below w.heap.size w wx → Calls Tryd.prog 100 #[.agg #[.pointer (some ⟨c.sb, 0, none⟩), .int .i64 i.con, .int .i64 i.thk, .int .i64 i.rid, .int .i64 i.prs, .bool ch], .int .i64 v] wx fun e w' => e = .returned (.int .i64 r) ∧ Below wx.heap.size wx w' := fun wx hb => by
    rw [hr]; exact resist_any c i ch v wx (E.below hb) L hi hv
  have HE := Lib.hid (And.intro E (And.intro ke (And.intro kt kr)))
  have H0 := Lib.hid O0
  have HM := Lib.hid (And.intro hen (And.intro ht (And.intro hr keq)))
  have E1 := E.below O0.bel
  have c4 := (cell_of_heap E1.hs 4).trans rfl
  have zs := E1.lt
  have g0 := (cell_of_heap (O0.heap 0 rfl) 0).trans rfl
  have zr := heap_lt (O0.heap 0 rfl)
  clear hen ht hr ke keq kt kr E L O0 E1
  go_enter Tryd.func96, Tryd.ntmps96
  go_upto_region 1 with fail
  rw [← hW, ← hrb]
  clear hW hrb
  by_cases hle : v ≤ en
  · have HZ := Lib.hid (And.intro hle hz)
    clear hz c4 zs g0 zr
    refine wp_region_stepsG (σ := Unit) (by kernel_rfl) (by kernel_rfl) (fun sg jx vx _ => HmkV rb c.sb c.s.thr.length c.ct c.At #[.pointer (some ⟨c.sb, 0, none⟩), .int .i64 i.con, .int .i64 i.thk, .int .i64 i.rid, .int .i64 i.prs, .bool ch] v en t r z sg jx vx) (fun sg ly wx => Own w.heap.size w [It.blk rb (.cells #[.pointer (some ⟨c.sb, 0, none⟩), .int .i64 i.con, .int .i64 i.thk, .int .i64 i.rid, .int .i64 i.prs, .bool ch] 79)] wx) () ?_ ?_ ?_
    · exact H0.out.drew
    · simp only [AllFrom, Nat.zero_add, Nat.reduceAdd]
      refine ⟨?_, ?_, ?_, ?_, ?_, ?_, ?_, ?_, ?_, ?_, ?_, ?_, ?_, ?_, ?_, ?_, ?_, ?_, ?_, trivial⟩
      · refine stepG_plain rfl ?_
        refine step_pure fun sg ly act wx hl hd hW hF => ?_
        have et1 := hF.old 1 (by kernel_rfl)
        simp [Act.eval] at et1
        exact ⟨hW, .int .i64 v, by go_simp, rfl⟩
      · refine stepG_plain rfl ?_
        refine step_pure fun sg ly act wx hl hd hW hF => ?_
        have et2 := hF.old 2 (by kernel_rfl)
        simp [Act.eval] at et2
        exact ⟨hW, .pointer (some ⟨rb, 0, none⟩), by go_simp, rfl⟩
      · refine stepG_plain rfl ?_
        refine step_pure fun sg ly act wx hl hd hW hF => ?_
        simp [Region.binds] at hd
        have et6 := hF.new 1 6 (by simp [hd]) rfl
        simp [HmkV, Act.eval] at et6
        have hO := hW
        try dsimp only at hO
        have hh := hO.heap 0 rfl
        have clq0 := (cell_of_heap hh 0).trans rfl
        have clq1 := (cell_of_heap hh 1).trans rfl
        have clq2 := (cell_of_heap hh 2).trans rfl
        have clq3 := (cell_of_heap hh 3).trans rfl
        have clq4 := (cell_of_heap hh 4).trans rfl
        have clq5 := (cell_of_heap hh 5).trans rfl
        have zz := heap_lt hh
        exact ⟨hW, .pointer (some ⟨c.sb, 0, none⟩), by go_simp, rfl⟩
      · refine stepG_plain rfl ?_
        refine step_pure fun sg ly act wx hl hd hW hF => ?_
        simp [Region.binds] at hd
        have et7 := hF.new 2 7 (by simp [hd]) rfl
        simp [HmkV, Act.eval] at et7
        have hO := hW
        have zs := (HE.out.1.below hO.bel).lt
        exact ⟨hW, .pointer (some ⟨c.sb, 0, none⟩), by go_simp, rfl⟩
      · refine stepG_plain rfl ?_
        refine step_pure fun sg ly act wx hl hd hW hF => ?_
        simp [Region.binds] at hd
        have et8 := hF.new 3 8 (by simp [hd]) rfl
        simp [HmkV, Act.eval] at et8
        have hO := hW
        have zs := (HE.out.1.below hO.bel).lt
        exact ⟨hW, .pointer (some ⟨c.sb, 4, none⟩), by go_simp, rfl⟩
      · refine stepG_plain rfl ?_
        refine step_pure fun sg ly act wx hl hd hW hF => ?_
        simp [Region.binds] at hd
        have et9 := hF.new 4 9 (by simp [hd]) rfl
        simp [HmkV, Act.eval] at et9
        have hO := hW
        have zs := (HE.out.1.below hO.bel).lt
        have c4 := (cell_of_heap (HE.out.1.below hO.bel).hs 4).trans rfl
        exact ⟨hW, .slice c.At c.s.thr.length c.ct, by go_simp, rfl⟩
      · refine stepG_plain rfl ?_
        refine step_call fun sg ly act wx hl hd hW hF => ?_
        simp [Region.binds] at hd
        have et10 := hF.new 5 10 (by simp [hd]) rfl
        simp [HmkV, Act.eval] at et10
        have hO := hW
        try dsimp only at hO
        refine ⟨92, #[.slice c.At c.s.thr.length c.ct], by go_simp, ?_⟩
        refine (HE.out.2.1 wx hO.bel).mono ?_
        rintro e w2 ⟨rfl, hb⟩
        exact ⟨_, sg, rfl, Own.below hW hb, rfl, fun _ _ _ h => h⟩
      · refine stepG_plain rfl ?_
        refine step_pure fun sg ly act wx hl hd hW hF => ?_
        simp [Region.binds] at hd
        have et5 := hF.new 0 5 (by simp [hd]) rfl
        simp [HmkV, Act.eval] at et5
        have et11 := hF.new 6 11 (by simp [hd]) rfl
        simp [HmkV, Act.eval] at et11
        have hle : v ≤ en := HZ.out.1
        exact ⟨hW, .bool true, by go_simp, rfl⟩
      · refine stepG_plain rfl ?_
        refine step_pure fun sg ly act wx hl hd hW hF => ?_
        simp [Region.binds] at hd
        have et12 := hF.new 7 12 (by simp [hd]) rfl
        simp [HmkV, Act.eval] at et12
        exact ⟨hW, .bool true, by go_simp, rfl⟩
      · refine stepG_yes ?_ ?_
        rotate_left
        · intro sg ly a wr hd hF
          simp [Region.binds] at hd
          exact wanted_eq hF (g := 8) (d := 13) (z := true) (b := true) rfl rfl (by simp [hd]) (fun v hv => hv)
        refine step_pure fun sg ly act wx hl hd hW hF => ?_
        have et2 := hF.old 2 (by kernel_rfl)
        simp [Act.eval] at et2
        exact ⟨hW, .pointer (some ⟨rb, 0, none⟩), by go_simp, rfl⟩
      · refine stepG_yes ?_ ?_
        rotate_left
        · intro sg ly a wr hd hF
          simp [Region.binds] at hd
          exact wanted_eq hF (g := 8) (d := 13) (z := true) (b := true) rfl rfl (by simp [hd]) (fun v hv => hv)
        refine step_pure fun sg ly act wx hl hd hW hF => ?_
        simp [Region.binds] at hd
        have et14 := hF.new 9 14 (by simp [hd]) rfl
        simp [HmkV, Act.eval] at et14
        have hO := hW
        try dsimp only at hO
        have hh := hO.heap 0 rfl
        have clq0 := (cell_of_heap hh 0).trans rfl
        have clq1 := (cell_of_heap hh 1).trans rfl
        have clq2 := (cell_of_heap hh 2).trans rfl
        have clq3 := (cell_of_heap hh 3).trans rfl
        have clq4 := (cell_of_heap hh 4).trans rfl
        have clq5 := (cell_of_heap hh 5).trans rfl
        have zz := heap_lt hh
        exact ⟨hW, .pointer (some ⟨c.sb, 0, none⟩), by go_simp, rfl⟩
      · refine stepG_yes ?_ ?_
        rotate_left
        · intro sg ly a wr hd hF
          simp [Region.binds] at hd
          exact wanted_eq hF (g := 8) (d := 13) (z := true) (b := true) rfl rfl (by simp [hd]) (fun v hv => hv)
        refine step_pure fun sg ly act wx hl hd hW hF => ?_
        have et1 := hF.old 1 (by kernel_rfl)
        simp [Act.eval] at et1
        exact ⟨hW, .int .i64 v, by go_simp, rfl⟩
      · refine stepG_yes ?_ ?_
        rotate_left
        · intro sg ly a wr hd hF
          simp [Region.binds] at hd
          exact wanted_eq hF (g := 8) (d := 13) (z := true) (b := true) rfl rfl (by simp [hd]) (fun v hv => hv)
        refine step_call fun sg ly act wx hl hd hW hF => ?_
        simp [Region.binds] at hd
        have et15 := hF.new 10 15 (by simp [hd]) rfl
        simp [HmkV, Act.eval] at et15
        have et16 := hF.new 11 16 (by simp [hd]) rfl
        simp [HmkV, Act.eval] at et16
        have hO := hW
        try dsimp only at hO
        refine ⟨99, #[.pointer (some ⟨c.sb, 0, none⟩), .int .i64 v], by go_simp, ?_⟩
        refine (HE.out.2.2.1 wx hO.bel).mono ?_
        rintro e w2 ⟨rfl, hb⟩
        exact ⟨_, sg, rfl, Own.below hW hb, rfl, fun _ _ _ h => h⟩
      · refine stepG_yes ?_ ?_
        rotate_left
        · intro sg ly a wr hd hF
          simp [Region.binds] at hd
          exact wanted_eq hF (g := 8) (d := 13) (z := true) (b := true) rfl rfl (by simp [hd]) (fun v hv => hv)
        refine step_pure fun sg ly act wx hl hd hW hF => ?_
        have et2 := hF.old 2 (by kernel_rfl)
        simp [Act.eval] at et2
        have hO := hW
        try dsimp only at hO
        have hh := hO.heap 0 rfl
        have clq0 := (cell_of_heap hh 0).trans rfl
        have clq1 := (cell_of_heap hh 1).trans rfl
        have clq2 := (cell_of_heap hh 2).trans rfl
        have clq3 := (cell_of_heap hh 3).trans rfl
        have clq4 := (cell_of_heap hh 4).trans rfl
        have clq5 := (cell_of_heap hh 5).trans rfl
        have zz := heap_lt hh
        exact ⟨hW, .agg #[.pointer (some ⟨c.sb, 0, none⟩), .int .i64 i.con, .int .i64 i.thk, .int .i64 i.rid, .int .i64 i.prs, .bool ch], by go_simp, rfl⟩
      · refine stepG_yes ?_ ?_
        rotate_left
        · intro sg ly a wr hd hF
          simp [Region.binds] at hd
          exact wanted_eq hF (g := 8) (d := 13) (z := true) (b := true) rfl rfl (by simp [hd]) (fun v hv => hv)
        refine step_pure fun sg ly act wx hl hd hW hF => ?_
        have et1 := hF.old 1 (by kernel_rfl)
        simp [Act.eval] at et1
        exact ⟨hW, .int .i64 v, by go_simp, rfl⟩
      · refine stepG_yes ?_ ?_
        rotate_left
        · intro sg ly a wr hd hF
          simp [Region.binds] at hd
          exact wanted_eq hF (g := 8) (d := 13) (z := true) (b := true) rfl rfl (by simp [hd]) (fun v hv => hv)
        refine step_call fun sg ly act wx hl hd hW hF => ?_
        simp [Region.binds] at hd
        have et18 := hF.new 13 18 (by simp [hd]) rfl
        simp [HmkV, Act.eval] at et18
        have et19 := hF.new 14 19 (by simp [hd]) rfl
        simp [HmkV, Act.eval] at et19
        have hO := hW
        try dsimp only at hO
        refine ⟨100, #[.agg #[.pointer (some ⟨c.sb, 0, none⟩), .int .i64 i.con, .int .i64 i.thk, .int .i64 i.rid, .int .i64 i.prs, .bool ch], .int .i64 v], by go_simp, ?_⟩
        refine (HE.out.2.2.2 wx hO.bel).mono ?_
        rintro e w2 ⟨rfl, hb⟩
        exact ⟨_, sg, rfl, Own.below hW hb, rfl, fun _ _ _ h => h⟩
      · refine stepG_yes ?_ ?_
        rotate_left
        · intro sg ly a wr hd hF
          simp [Region.binds] at hd
          exact wanted_eq hF (g := 8) (d := 13) (z := true) (b := true) rfl rfl (by simp [hd]) (fun v hv => hv)
        refine step_pure fun sg ly act wx hl hd hW hF => ?_
        simp [Region.binds] at hd
        have et17 := hF.new 12 17 (by simp [hd]) rfl
        simp [HmkV, Act.eval] at et17
        have et20 := hF.new 15 20 (by simp [hd]) rfl
        simp [HmkV, Act.eval] at et20
        have hz := HZ.out.2
        exact ⟨hW, .bool z, by go_simp, rfl⟩
      · refine stepG_plain rfl ?_
        refine step_pure fun sg ly act wx hl hd hW hF => ?_
        simp [Region.binds] at hd
        have et13 := hF.new 8 13 (by simp [hd]) rfl
        simp [HmkV, Act.eval] at et13
        have et21 := hF.new 16 21 (by simp [hd]) rfl
        simp [HmkV, Act.eval] at et21
        exact ⟨hW, .bool z, by go_simp, rfl⟩
      · refine stepG_plain rfl ?_
        refine step_pure fun sg ly act wx hl hd hW hF => ?_
        simp [Region.binds] at hd
        have et22 := hF.new 17 22 (by simp [hd]) rfl
        simp [HmkV, Act.eval] at et22
        exact ⟨hW, .bool z, by go_simp, rfl⟩
    intro sg af w4 hWW hF
    have e4 := hF.new 18 4 (by decide) rfl
    obtain ⟨ff, hf, rfl⟩ := hF.lit
    rw [← hf] at e4
    simp only [HmkV] at e4
    have O4 : Own w.heap.size w [It.blk rb (.cells #[.pointer (some ⟨c.sb, 0, none⟩), .int .i64 i.con, .int .i64 i.thk, .int .i64 i.rid, .int .i64 i.prs, .bool ch] 79)] w4 := hWW
    have H4 := Lib.hid O4.bel
    clear hWW hF hf O4
    simp only [List.filterMap, List.foldl, List.setIfInBounds_toArray, List.set_cons_succ, List.set_cons_zero, e4]
    clear e4
    go_wp2_with fail
    go_ret
    exact ⟨by unfold Hu.makes; rw [← HM.out.1, ← HM.out.2.1, ← HM.out.2.2.1, decide_eq_true HZ.out.1, HZ.out.2]; rfl, H4.out⟩
  · have d1 : decide (v ≤ en) = false := decide_eq_false hle
    have KE := Lib.hid (fun m => HM.out.2.2.2 (W.drewN m) (H0.out.below (below_drewN (Below.refl _ _) m)).bel)
    go_quiet ((go_at_call 92; with_reducible exact Calls.quiet_of_same (KE.out _)))
    go_wp2_with fail
    go_ret
    exact ⟨by unfold Hu.makes; rw [← HM.out.1, d1]; rfl, below_drewN H0.out.bel _⟩

end Go.Proofs.YtalcinepeofmcaaDoor
/- hull: greatest, speed (printed by wip/tools/hull3.py) -/
namespace Go.Proofs.YtalcinepeofmcaaDoor
open Go Go.RowKit Sp Hu
set_option linter.unusedVariables false
set_option linter.unusedSimpArgs false

def GrtPost (so : Int → Bool) (lo hi : Int) (w : World) (e : Ending) (w' : World) : Prop := ∃ r b, e = .returned (.tuple #[.int .i64 r, .bool b]) ∧ GrtP so lo hi r b ∧ Below w.heap.size w w'
def SpdPost (so : Int → Bool) (w : World) (e : Ending) (w' : World) : Prop := ∃ r b, e = .returned (.int .i64 r) ∧ GrtP so 0 250 r b ∧ Below w.heap.size w w'

set_option maxRecDepth 100000 in
set_option maxHeartbeats 4000000 in
theorem grtM_any (sb : Nat) (i : Ic) (ch : Bool) (so : Int → Bool) (lo hi : Int) (w : World) (hlo : 0 ≤ lo ∧ lo ≤ hi ∧ hi ≤ 1000) (hmono : ∀ a b, lo ≤ a → a ≤ b → b ≤ hi → so b = true → so a = true)
    (hf : ∀ n, lo ≤ n → n ≤ hi → ∀ wx, Below w.heap.size w wx → Calls Tryd.prog 96 #[.agg #[.pointer (some ⟨sb, 0, none⟩), .int .i64 i.con, .int .i64 i.thk, .int .i64 i.rid, .int .i64 i.prs, .bool ch], .int .i64 n] wx fun e w' => e = .returned (.bool (so n)) ∧ Below wx.heap.size wx w') :
    Calls Tryd.prog 95 #[.int .i64 lo, .int .i64 hi, .func (.func 96) #[.agg #[.pointer (some ⟨sb, 0, none⟩), .int .i64 i.con, .int .i64 i.thk, .int .i64 i.rid, .int .i64 i.prs, .bool ch]] #[]] w (GrtPost so lo hi w) := by
  have HF := Lib.hid (And.intro hf hmono)
  obtain ⟨z, hz⟩ : ∃ z, z = so lo := ⟨_, rfl⟩
  have k0 := hf lo (Int.le_refl _) hlo.2.1 w (Below.refl _ _)
  rw [← hz] at k0
  have H0 := Lib.hid (And.intro k0 hz)
  clear hf hmono k0 hz
  cases z
  · go_enter Tryd.func95, Tryd.ntmps95
    go_wp2_with (go_at_call 96; refine H0.out.1.mono ?_; rintro e w' ⟨rfl, b1⟩; have HB := Lib.hid b1; clear b1)
    go_ret2
    exact ⟨0, false, rfl, .inr ⟨rfl, H0.out.2.symm, rfl⟩, HB.out⟩
  · go_enter Tryd.func95, Tryd.ntmps95
    go_upto_block 0 with (go_at_call 96; refine H0.out.1.mono ?_; rintro e w' ⟨rfl, b1⟩; have HB := Lib.hid b1; clear b1)
    go_wp2_with fail
    go_loopg [0, 1, 8] ((hi - lo).toNat) (fun g x y m wr => ∃ a b : Int, (b - a).toNat ≤ g ∧ lo ≤ a ∧ a ≤ b ∧ b ≤ hi ∧ x = .int .i64 a ∧ y = .int .i64 b ∧ (so a = true ∧ ∀ n, b < n → n ≤ hi → so n = false) ∧ Below w.heap.size w wr)
    case atStart => exact ⟨lo, hi, Nat.le_refl _, Int.le_refl _, hlo.2.1, Int.le_refl _, rfl, rfl, ⟨H0.out.2.symm, fun n h1 h2 => by omega⟩, HB.out⟩
    case round =>
      obtain ⟨a, b, hg, ha, hab, hb, rfl, rfl, hso, bb⟩ := hrel
      have HR := Lib.hid (And.intro hso bb)
      clear hso bb
      by_cases hlt : a < b
      · have e0 : (b - a + 1).tdiv 2 = (b - a + 1) / 2 := Int.tdiv_eq_ediv_of_nonneg (by omega)
        obtain ⟨q, hq⟩ : ∃ q, q = (b - a + 1).tdiv 2 := ⟨_, rfl⟩
        have hq2 : 1 ≤ q ∧ q ≤ b - a := by omega
        obtain ⟨m, hm⟩ : ∃ m, m = a + q := ⟨_, rfl⟩
        obtain ⟨z, hz⟩ : ∃ z, z = so m := ⟨_, rfl⟩
        have k1 := HF.out.1 m (by omega) (by omega) wr HR.out.2
        rw [← hz] at k1
        have H1 := Lib.hid (And.intro k1 hz)
        have HQ := Lib.hid (And.intro hq hm)
        have hq' : (b - a + 1).tdiv 2 = q := hq.symm
        have hm2 : a < m ∧ m ≤ b := by omega
        clear k1 hz e0 hq
        go_upto_region 5 with fail
        try rw [hq']
        clear hq'
        rw [← hm]
        clear hm
        cases z
        · go_wp2_with (go_at_call 96; refine H1.out.1.mono ?_; rintro e w' ⟨rfl, b1⟩; have HB1 := Lib.hid (HR.out.2.trans (b1.mono HR.out.2.size)); clear b1)
          go_roundg (gk - 1)
          case measure => omega
          case rel => exact ⟨a, m - 1, by omega, ha, by omega, by omega, rfl, by go_num, ⟨HR.out.1.1, fun n h1 h2 => by
            cases hn : so n with
            | false => rfl
            | true => have := HF.out.2 m n (by omega) (by omega) h2 hn; rw [← H1.out.2] at this; cases this⟩, HB1.out⟩
        · go_wp2_with (go_at_call 96; refine H1.out.1.mono ?_; rintro e w' ⟨rfl, b1⟩; have HB1 := Lib.hid (HR.out.2.trans (b1.mono HR.out.2.size)); clear b1)
          go_roundg (gk - 1)
          case measure => omega
          case rel => exact ⟨m, b, by omega, by omega, by omega, hb, rfl, rfl, ⟨H1.out.2.symm, HR.out.1.2⟩, HB1.out⟩
      · obtain rfl : a = b := by omega
        go_wp2_with fail
        go_ret2
        exact ⟨a, true, rfl, .inl ⟨rfl, ha, hb, HR.out.1.1, HR.out.1.2⟩, HR.out.2⟩


set_option maxRecDepth 100000 in
theorem speed_any (c : ShC) (i : Ic) (ch : Bool) (w : World) (E : ShE c w) (L : ShL c.s) (hi : IcOk i) :
    Calls Tryd.prog 72 #[.agg #[.pointer (some ⟨c.sb, 0, none⟩), .int .i64 i.con, .int .i64 i.thk, .int .i64 i.rid, .int .i64 i.prs, .bool ch]] w (SpdPost (makes c.s i ch) w) := by
  obtain ⟨W, hW⟩ : ∃ W, W = w.alloc (.cells #[.pointer (some ⟨c.sb, 0, none⟩), .int .i64 i.con, .int .i64 i.thk, .int .i64 i.rid, .int .i64 i.prs, .bool ch] 79) := ⟨_, rfl⟩
  obtain ⟨rb, hrb⟩ : ∃ b, b = w.heap.size := ⟨_, rfl⟩
  have O0 : Own w.heap.size w [.blk rb (.cells #[.pointer (some ⟨c.sb, 0, none⟩), .int .i64 i.con, .int .i64 i.thk, .int .i64 i.rid, .int .i64 i.prs, .bool ch] 79)] W := by
    have h := (Own.start w).alloc (.cells #[.pointer (some ⟨c.sb, 0, none⟩), .int .i64 i.con, .int .i64 i.thk, .int .i64 i.rid, .int .i64 i.prs, .bool ch] 79)
    rw [hW, hrb]; simpa using h
  have E1 := E.below O0.bel
  have kg := grtM_any c.sb i ch (makes c.s i ch) 0 250 W (by decide) (fun a b h1 h2 h3 hm => makes_v L.ok hi ch h1 h2 hm) (fun n h1 h2 wx hb => makes_any c i ch n wx (E1.below hb) L hi (by omega))
  have hh := O0.heap 0 rfl
  have g0 := (cell_of_heap hh 0).trans rfl
  have g1 := (cell_of_heap hh 1).trans rfl
  have g2 := (cell_of_heap hh 2).trans rfl
  have g3 := (cell_of_heap hh 3).trans rfl
  have g4 := (cell_of_heap hh 4).trans rfl
  have g5 := (cell_of_heap hh 5).trans rfl
  have zr := heap_lt hh
  have HG := Lib.hid (And.intro kg O0.bel)
  clear kg O0 E E1 hh
  go_enter Tryd.func72, Tryd.ntmps72
  go_upto_region 1 with fail
  rw [← hW, ← hrb]
  clear hW hrb
  go_wp2_with (go_at_call 95; refine HG.out.1.mono ?_; rintro e w' ⟨r, b, rfl, h1, b1⟩; have HB := Lib.hid (And.intro h1 b1); clear h1 b1)
  go_ret
  exact ⟨r, b, rfl, HB.out.1, HG.out.2.trans (HB.out.2.mono HG.out.2.size)⟩

end Go.Proofs.YtalcinepeofmcaaDoor
