/- ice: first, CheckRates, change, aged (printed by wip/tools/icen.py) -/
import Derived.Test.YtalcinepeofmcaaDoorRSp23
import Derived.Test.YtalcinepeofmcaaDoorRSp0
import Derived.IntWalk
import Derived.Laws.EntriesVeiled
import Derived.Laws.IdiomCopy
import Derived.Laws.MakeOwn
import Derived.Laws.OwnMore
import Derived.Test.YtalcinepeofmcaaDoorRSp21
import Derived.Test.YtalcinepeofmcaaDoorRSp22
set_option linter.unusedVariables false
set_option linter.unusedSimpArgs false
namespace Go.Proofs.YtalcinepeofmcaaDoor
open Go Go.RowKit Go.Lib Sp
set_option linter.unusedVariables false
set_option linter.unusedSimpArgs false


abbrev ic4 (x : Ice) : Array Value := #[.int .i64 x.con, .int .i64 x.thk, .int .i64 x.rid, .int .i64 x.prs]
abbrev rtA (u d : Ice) : Array Value := #[.int .i64 u.con, .int .i64 u.thk, .int .i64 u.rid, .int .i64 u.prs, .int .i64 d.con, .int .i64 d.thk, .int .i64 d.rid, .int .i64 d.prs]
def rtN (u d : Ice) (k : Nat) : Bool := within (iceN u k) 0 1000 && within (iceN d k) 0 1000
def rtOk (u d : Ice) : Prop := ∀ k, k < 4 → 0 ≤ iceN u k ∧ iceN u k ≤ 1000 ∧ 0 ≤ iceN d k ∧ iceN d k ≤ 1000
theorem rt_all {u d : Ice} (h : rtOk u d) (k : Nat) (hk : k < 4) : rtN u d k = true := by
  have := h k hk
  simp only [rtN, within, Bool.and_eq_true, decide_eq_true_eq]
  omega

/-- two blocks of numbers, made in whatever order -/
structure RtW (W0 : World) (u d : Ice) (s : Nat × Nat) (l : Nat → Bool) (w : World) : Prop where
  bel : Below W0.heap.size W0 w
  q1 : l 6 = true → W0.heap.size ≤ s.1 ∧ w.heap[s.1]? = some (.cells (if l 8 then ic4 u else #[.int .i64 0, .int .i64 0, .int .i64 0, .int .i64 0]) 150 (0, 0))
  q2 : l 7 = true → W0.heap.size ≤ s.2 ∧ w.heap[s.2]? = some (.cells (if l 9 then ic4 d else #[.int .i64 0, .int .i64 0, .int .i64 0, .int .i64 0]) 150 (0, 0))
  ne : l 6 = true → l 7 = true → s.1 ≠ s.2
section
variable {W0 : World} {u d : Ice} {s : Nat × Nat} {l : Nat → Bool} {w w' : World}
theorem upd_n {i j : Nat} (h : j ≠ i) : upd l i j = l j := if_neg h
theorem RtW.call (h : RtW W0 u d s l w) (i : Nat) (hi : i ≠ 6 ∧ i ≠ 7 ∧ i ≠ 8 ∧ i ≠ 9) (hb : Below w.heap.size w w') : RtW W0 u d s (upd l i) w' := by
  obtain ⟨a1, a2, a3, a4⟩ := hi
  refine ⟨h.bel.trans (hb.mono h.bel.size), ?_, ?_, ?_⟩
  · rw [upd_n (Ne.symm a1), upd_n (Ne.symm a3)]; exact fun q => ⟨(h.q1 q).1, (hb.block _ (heap_lt (h.q1 q).2)).trans (h.q1 q).2⟩
  · rw [upd_n (Ne.symm a2), upd_n (Ne.symm a4)]; exact fun q => ⟨(h.q2 q).1, (hb.block _ (heap_lt (h.q2 q).2)).trans (h.q2 q).2⟩
  · rw [upd_n (Ne.symm a1), upd_n (Ne.symm a2)]; exact h.ne
theorem RtW.other (h : RtW W0 u d s l w) (i : Nat) (hi : i ≠ 6 ∧ i ≠ 7 ∧ i ≠ 8 ∧ i ≠ 9) : RtW W0 u d s (upd l i) w := h.call i hi (Below.refl _ _)
theorem RtW.allocA (h : RtW W0 u d s l w) (h8 : l 8 = false) : RtW W0 u d (w.heap.size, s.2) (upd l 6) (w.alloc (.cells #[.int .i64 0, .int .i64 0, .int .i64 0, .int .i64 0] 150)) := by
  have hb : Below w.heap.size w (w.alloc (.cells #[.int .i64 0, .int .i64 0, .int .i64 0, .int .i64 0] 150)) := (Below.refl _ _).alloc (Nat.le_refl _) _
  refine ⟨h.bel.trans (hb.mono h.bel.size), ?_, ?_, ?_⟩
  · rw [upd_n (show 8 ≠ 6 by decide), h8]; exact fun _ => ⟨h.bel.size, heap_alloc_new _ _⟩
  · rw [upd_n (show 7 ≠ 6 by decide), upd_n (show 9 ≠ 6 by decide)]; exact fun q => ⟨(h.q2 q).1, heap_alloc' (h.q2 q).2 _⟩
  · rw [upd_n (show 7 ≠ 6 by decide)]; exact fun _ q e => by have := heap_lt (h.q2 q).2; simp only at e; omega
theorem RtW.allocB (h : RtW W0 u d s l w) (h9 : l 9 = false) : RtW W0 u d (s.1, w.heap.size) (upd l 7) (w.alloc (.cells #[.int .i64 0, .int .i64 0, .int .i64 0, .int .i64 0] 150)) := by
  have hb : Below w.heap.size w (w.alloc (.cells #[.int .i64 0, .int .i64 0, .int .i64 0, .int .i64 0] 150)) := (Below.refl _ _).alloc (Nat.le_refl _) _
  refine ⟨h.bel.trans (hb.mono h.bel.size), ?_, ?_, ?_⟩
  · rw [upd_n (show 6 ≠ 7 by decide), upd_n (show 8 ≠ 7 by decide)]; exact fun q => ⟨(h.q1 q).1, heap_alloc' (h.q1 q).2 _⟩
  · rw [upd_n (show 9 ≠ 7 by decide), h9]; exact fun _ => ⟨h.bel.size, heap_alloc_new _ _⟩
  · rw [upd_n (show 6 ≠ 7 by decide)]; exact fun q _ e => by have := heap_lt (h.q1 q).2; simp only at e; omega
theorem keep4 (w : World) (b : Nat) (v0 v1 v2 v3 : Value) : Keep [b] w ((((w.setCell ⟨b, 0, none⟩ v0).setCell ⟨b, 1, none⟩ v1).setCell ⟨b, 2, none⟩ v2).setCell ⟨b, 3, none⟩ v3) :=
  ((((Keep.refl [b] w).setCell (.inl (by simp)) _).setCell (.inl (by simp)) _).setCell (.inl (by simp)) _).setCell (.inl (by simp)) _
theorem RtW.storeA (h : RtW W0 u d s l w) (h6 : l 6 = true) (h8 : l 8 = false) : RtW W0 u d s (upd l 8) ((((w.setCell ⟨s.1, 0, none⟩ (.int .i64 u.con)).setCell ⟨s.1, 1, none⟩ (.int .i64 u.thk)).setCell ⟨s.1, 2, none⟩ (.int .i64 u.rid)).setCell ⟨s.1, 3, none⟩ (.int .i64 u.prs)) := by
  have K := keep4 w s.1 (.int .i64 u.con) (.int .i64 u.thk) (.int .i64 u.rid) (.int .i64 u.prs)
  have q := h.q1 h6
  rw [h8] at q
  refine ⟨h.bel.trans (K.below h.bel.size (by simpa using q.1)), ?_, ?_, ?_⟩
  · rw [upd_n (show 6 ≠ 8 by decide)]
    have e : upd l 8 8 = true := if_pos rfl
    rw [e]
    exact fun _ => ⟨q.1, heap_set (heap_set (heap_set (heap_set q.2 0 _) 1 _) 2 _) 3 _⟩
  · rw [upd_n (show 7 ≠ 8 by decide), upd_n (show 9 ≠ 8 by decide)]
    exact fun h7 => ⟨(h.q2 h7).1, (K.block _ (heap_lt (h.q2 h7).2) (by simpa using (h.ne h6 h7).symm)).trans (h.q2 h7).2⟩
  · rw [upd_n (show 6 ≠ 8 by decide), upd_n (show 7 ≠ 8 by decide)]; exact h.ne
theorem RtW.storeB (h : RtW W0 u d s l w) (h7 : l 7 = true) (h9 : l 9 = false) : RtW W0 u d s (upd l 9) ((((w.setCell ⟨s.2, 0, none⟩ (.int .i64 d.con)).setCell ⟨s.2, 1, none⟩ (.int .i64 d.thk)).setCell ⟨s.2, 2, none⟩ (.int .i64 d.rid)).setCell ⟨s.2, 3, none⟩ (.int .i64 d.prs)) := by
  have K := keep4 w s.2 (.int .i64 d.con) (.int .i64 d.thk) (.int .i64 d.rid) (.int .i64 d.prs)
  have q := h.q2 h7
  rw [h9] at q
  refine ⟨h.bel.trans (K.below h.bel.size (by simpa using q.1)), ?_, ?_, ?_⟩
  · rw [upd_n (show 6 ≠ 9 by decide), upd_n (show 8 ≠ 9 by decide)]
    exact fun h6 => ⟨(h.q1 h6).1, (K.block _ (heap_lt (h.q1 h6).2) (by simpa using h.ne h6 h7)).trans (h.q1 h6).2⟩
  · rw [upd_n (show 7 ≠ 9 by decide)]
    have e : upd l 9 9 = true := if_pos rfl
    rw [e]
    exact fun _ => ⟨q.1, heap_set (heap_set (heap_set (heap_set q.2 0 _) 1 _) 2 _) 3 _⟩
  · rw [upd_n (show 6 ≠ 9 by decide), upd_n (show 7 ≠ 9 by decide)]; exact h.ne
end

set_option linter.unusedVariables false
def CrV (W0 : World) (rb : Nat) (u d : Ice) (s : Nat × Nat) : Nat → Value → Prop
  | 0, v => v = .pointer (some ⟨rb, 0, none⟩)
  | 1, v => v = .agg #[.int .i64 u.con, .int .i64 u.thk, .int .i64 u.rid, .int .i64 u.prs]
  | 2, v => v = .agg #[.int .i64 u.con, .int .i64 u.thk, .int .i64 u.rid, .int .i64 u.prs]
  | 3, v => v = .pointer (some ⟨rb, 4, none⟩)
  | 4, v => v = .agg #[.int .i64 d.con, .int .i64 d.thk, .int .i64 d.rid, .int .i64 d.prs]
  | 5, v => v = .agg #[.int .i64 d.con, .int .i64 d.thk, .int .i64 d.rid, .int .i64 d.prs]
  | 6, v => v = .pointer (some ⟨s.1, 0, none⟩)
  | 7, v => v = .pointer (some ⟨s.2, 0, none⟩)
  | _, _ => True
def CrW (W0 : World) (rb : Nat) (u d : Ice) (s : Nat × Nat) (l : Nat → Bool) (w : World) : Prop := RtW W0 u d s l w


def chg (r h : Int) : Int := Int.tdiv (r * h + 24 - 1) 24
theorem chg_bd {r h : Int} (h1 : 0 ≤ r ∧ r ≤ 1000) (h2 : 0 ≤ h ∧ h ≤ 10000) : 0 ≤ chg r h ∧ chg r h ≤ 500000 ∧ 0 ≤ r * h ∧ r * h ≤ 10000000 := by
  have a := Int.mul_nonneg h1.1 h2.1
  have b := Int.mul_le_mul h1.2 h2.2 h2.1 (by omega)
  unfold chg
  rw [Int.tdiv_eq_ediv_of_nonneg (by omega)]
  omega

end Go.Proofs.YtalcinepeofmcaaDoor
/- polynyalaw03.Frozen, Some: a cell within the limits, an ice in it (printed by wip/tools/fzb.py) -/
namespace Go.Proofs.YtalcinepeofmcaaDoor
open Go Go.RowKit Go.Lib Sp
set_option linter.unusedVariables false
set_option linter.unusedSimpArgs false

def FrozenPost (w : World) (e : Ending) (w' : World) : Prop := ∃ x : Cel, e = .returned (.agg (celA x)) ∧ celOk x = true ∧ Below w.heap.size w w'
set_option maxRecDepth 100000 in
set_option maxHeartbeats 2000000 in
theorem Frozen_any (A : Option Addr) (c : Nat) (l : List Int) (w : World) (hr : Rd w 1 A l.length (byts l)) (hb : Bytes l) (hl : l.length ≤ 9223372036854775806) :
    Calls Tryd.prog 5 #[.slice A l.length c] w (FrozenPost w) := by
  obtain ⟨W, hW⟩ : ∃ W, W = w.alloc (.cells #[.int .i64 0, .int .i64 0, .int .i64 0, .int .i64 0, .int .i64 0, .int .i64 0, .int .i64 0, .int .i64 0] 30) := ⟨_, rfl⟩
  obtain ⟨rb, hrb⟩ : ∃ b, b = w.heap.size := ⟨_, rfl⟩
  have hrh : W.heap[rb]? = some (.cells #[.int .i64 0, .int .i64 0, .int .i64 0, .int .i64 0, .int .i64 0, .int .i64 0, .int .i64 0, .int .i64 0] 30 (0, 0)) := by rw [hW, hrb]; exact heap_alloc_new _ _
  have bW : Below w.heap.size w W := by rw [hW]; exact (Below.refl _ _).alloc (Nat.le_refl _) _
  have kd := Drawn_some w.heap.size A c l W (hr.below bW) hb hl bW.size (fun h0 b off e => hr.lt' h0 e)
  have HR := Lib.hid (And.intro hrh (And.intro bW (And.intro kd (show w.heap.size ≤ rb by omega))))
  clear hrh bW kd hr hb
  go_enter Tryd.func5, Tryd.ntmps5
  go_upto_region 1 with fail
  rw [← hW, ← hrb]
  clear hW hrb
  go_wp2_with fail
  refine HR.out.2.2.1.mono ?_
  rintro e w1 ⟨ib, lb, rfl, hn, h1, h2, b1⟩
  go_upto_region 3 with fail
  obtain ⟨w2, hw2⟩ : ∃ w2, w2 = w1.alloc (.cells #[.func (.func 45) #[] #[.pointer (some ⟨ib, 0, none⟩), .pointer (some ⟨lb, 0, none⟩)]] 60) := ⟨_, rfl⟩
  obtain ⟨nb, hnb⟩ : ∃ nb, nb = w1.heap.size := ⟨_, rfl⟩
  have hlt := hn.lt
  have b2 : Below w1.heap.size w1 w2 := by rw [hw2]; exact (Below.refl _ _).alloc (Nat.le_refl _) _
  have hf : w2.cell? ⟨nb, 0, none⟩ = some (.func (.func 45) #[] #[.pointer (some ⟨ib, 0, none⟩), .pointer (some ⟨lb, 0, none⟩)]) := by rw [hw2, hnb]; exact cell_new_one _ _ _
  have hn2 := hn.below b2
  have b02 : Below W.heap.size W w2 := b1.trans (b2.mono b1.size)
  have hne : nb ≠ ib := by omega
  have hib : W.heap.size ≤ ib := h1
  have H2 := Lib.hid (And.intro hn2 (And.intro hf (And.intro (Keep.of_below (S := [ib]) b02) (And.intro hne hib))))
  rw [← hw2, ← hnb]
  clear hw2 hnb hlt b2 hf hn2 b02 hne hib hn h1 h2 b1
  go_wp2_with fail
  refine (frozen1_any w.heap.size ib lb nb 1 40 100 100 (by decide) (by decide) (by decide) (by decide) (by decide) w2 H2.out.1 H2.out.2.1 H2.out.2.2.2.1).mono ?_
  rintro e w3 ⟨lo0, hi0, rfl, hb0, hn, hk⟩
  have H3 := Lib.hid (And.intro hn (And.intro (hk.cell H2.out.2.1 (by simpa using H2.out.2.2.2.1)) (And.intro (H2.out.2.2.1.trans hk (fun z hz => .inl hz)) (And.intro H2.out.2.2.2.1 H2.out.2.2.2.2))))
  clear hn hk
  go_wp2_with fail
  refine (frozen1_any w.heap.size ib lb nb 2 120 400 200 (by decide) (by decide) (by decide) (by decide) (by decide) w3 H3.out.1 H3.out.2.1 H3.out.2.2.2.1).mono ?_
  rintro e w4 ⟨lo1, hi1, rfl, hb1, hn, hk⟩
  have H4 := Lib.hid (And.intro hn (And.intro (hk.cell H3.out.2.1 (by simpa using H3.out.2.2.2.1)) (And.intro (H3.out.2.2.1.trans hk (fun z hz => .inl hz)) (And.intro H3.out.2.2.2.1 H3.out.2.2.2.2))))
  clear hn hk
  go_wp2_with fail
  refine (frozen1_any w.heap.size ib lb nb 1 20 100 100 (by decide) (by decide) (by decide) (by decide) (by decide) w4 H4.out.1 H4.out.2.1 H4.out.2.2.2.1).mono ?_
  rintro e w5 ⟨lo2, hi2, rfl, hb2, hn, hk⟩
  have H5 := Lib.hid (And.intro hn (And.intro (hk.cell H4.out.2.1 (by simpa using H4.out.2.2.2.1)) (And.intro (H4.out.2.2.1.trans hk (fun z hz => .inl hz)) (And.intro H4.out.2.2.2.1 H4.out.2.2.2.2))))
  clear hn hk
  go_wp2_with fail
  refine (frozen1_any w.heap.size ib lb nb 1 4 3 3 (by decide) (by decide) (by decide) (by decide) (by decide) w5 H5.out.1 H5.out.2.1 H5.out.2.2.2.1).mono ?_
  rintro e w6 ⟨lo3, hi3, rfl, hb3, hn, hk⟩
  have H6 := Lib.hid (And.intro hn (And.intro (hk.cell H5.out.2.1 (by simpa using H5.out.2.2.2.1)) (And.intro (H5.out.2.2.1.trans hk (fun z hz => .inl hz)) (And.intro H5.out.2.2.2.1 H5.out.2.2.2.2))))
  clear hn hk
  have hr6 := (H6.out.2.2.1.block _ (heap_lt HR.out.1) (by have := heap_lt HR.out.1; have := H6.out.2.2.2.2; simp; omega)).trans HR.out.1
  have c0 := (cell_of_heap hr6 0).trans rfl
  have f0 := frozen_of_heap hr6 0
  have c1 := (cell_of_heap hr6 1).trans rfl
  have f1 := frozen_of_heap hr6 1
  have c2 := (cell_of_heap hr6 2).trans rfl
  have f2 := frozen_of_heap hr6 2
  have c3 := (cell_of_heap hr6 3).trans rfl
  have f3 := frozen_of_heap hr6 3
  have c4 := (cell_of_heap hr6 4).trans rfl
  have f4 := frozen_of_heap hr6 4
  have c5 := (cell_of_heap hr6 5).trans rfl
  have f5 := frozen_of_heap hr6 5
  have c6 := (cell_of_heap hr6 6).trans rfl
  have f6 := frozen_of_heap hr6 6
  have c7 := (cell_of_heap hr6 7).trans rfl
  have f7 := frozen_of_heap hr6 7
  have zr := heap_lt hr6
  have hfin : ((((((((w6.setCell ⟨rb, 0, none⟩ (.int .i64 lo0)).setCell ⟨rb, 1, none⟩ (.int .i64 hi0)).setCell ⟨rb, 2, none⟩ (.int .i64 lo1)).setCell ⟨rb, 3, none⟩ (.int .i64 hi1)).setCell ⟨rb, 4, none⟩ (.int .i64 lo2)).setCell ⟨rb, 5, none⟩ (.int .i64 hi2)).setCell ⟨rb, 6, none⟩ (.int .i64 lo3)).setCell ⟨rb, 7, none⟩ (.int .i64 hi3)).heap[rb]? = some (.cells #[.int .i64 lo0, .int .i64 hi0, .int .i64 lo1, .int .i64 hi1, .int .i64 lo2, .int .i64 hi2, .int .i64 lo3, .int .i64 hi3] 30 (0, 0)) := (heap_set (heap_set (heap_set (heap_set (heap_set (heap_set (heap_set (heap_set hr6 0 (.int .i64 lo0)) 1 (.int .i64 hi0)) 2 (.int .i64 lo1)) 3 (.int .i64 hi1)) 4 (.int .i64 lo2)) 5 (.int .i64 hi2)) 6 (.int .i64 lo3)) 7 (.int .i64 hi3))
  have b6 : Below w.heap.size w w6 := HR.out.2.1.trans ((H6.out.2.2.1.below (Nat.le_refl _) (by simpa using H6.out.2.2.2.2)).mono HR.out.2.1.size)
  have H7 := Lib.hid (And.intro hfin (((((((((b6.setCell (p := ⟨rb, 0, none⟩) HR.out.2.2.2 (.int .i64 lo0)).setCell (p := ⟨rb, 1, none⟩) HR.out.2.2.2 (.int .i64 hi0)).setCell (p := ⟨rb, 2, none⟩) HR.out.2.2.2 (.int .i64 lo1)).setCell (p := ⟨rb, 3, none⟩) HR.out.2.2.2 (.int .i64 hi1)).setCell (p := ⟨rb, 4, none⟩) HR.out.2.2.2 (.int .i64 lo2)).setCell (p := ⟨rb, 5, none⟩) HR.out.2.2.2 (.int .i64 hi2)).setCell (p := ⟨rb, 6, none⟩) HR.out.2.2.2 (.int .i64 lo3)).setCell (p := ⟨rb, 7, none⟩) HR.out.2.2.2 (.int .i64 hi3))))
  clear hr6 hfin b6
  go_wp2_with fail
  refine bodyPost_ret (celA_results (r := 2) rfl H7.out.1 _ rfl) rfl ⟨⟨lo0, hi0, lo1, hi1, lo2, hi2, lo3, hi3⟩, rfl, ?_, H7.out.2⟩
  simp only [celOk, spanOk, within, Bool.and_eq_true, decide_eq_true_eq]
  omega

set_option linter.unusedVariables false
def SoV (D : Nat) (W0 : World) (ib lb nb xb : Nat) (lo hi : Int) (s : Int × Int) : Nat → Value → Prop
  | 0, v => v = .pointer (some ⟨xb, 0, none⟩)
  | 1, v => v = .int .i64 lo
  | 2, v => v = .func (.func 45) #[] #[.pointer (some ⟨ib, 0, none⟩), .pointer (some ⟨lb, 0, none⟩)]
  | 3, v => v = .int .i64 s.1
  | 4, v => v = .func (.func 45) #[] #[.pointer (some ⟨ib, 0, none⟩), .pointer (some ⟨lb, 0, none⟩)]
  | 5, v => v = .int .i64 s.2
  | 6, v => v = .int .i64 (256 * s.2)
  | 7, v => v = .int .i64 (s.1 + 256 * s.2)
  | 8, v => v = .pointer (some ⟨xb, 1, none⟩)
  | 9, v => v = .int .i64 hi
  | 10, v => v = .pointer (some ⟨xb, 0, none⟩)
  | 11, v => v = .int .i64 lo
  | 12, v => v = .int .i64 (hi - lo)
  | 13, v => v = .int .i64 (hi - lo + 1)
  | 14, v => v = .int .i64 (Int.tmod (s.1 + 256 * s.2) (hi - lo + 1))
  | 15, v => v = .int .i64 (lo + Int.tmod (s.1 + 256 * s.2) (hi - lo + 1))
  | 16, v => v = .int .i64 (lo + Int.tmod (s.1 + 256 * s.2) (hi - lo + 1))
  | _, _ => True
def SoW (D : Nat) (W0 : World) (ib lb nb xb : Nat) (lo hi : Int) (s : Int × Int) (l : Nat → Bool) (w : World) : Prop := FzW D W0 ib lb nb [] w ∧ (l 3 = true → 0 ≤ s.1 ∧ s.1 < 256) ∧ (l 5 = true → 0 ≤ s.2 ∧ s.2 < 2)
theorem tmod_bd {a b : Int} (ha : 0 ≤ a) (hb : 0 < b) : 0 ≤ Int.tmod a b ∧ Int.tmod a b < b := by
  rw [Int.tmod_eq_emod_of_nonneg ha]; exact ⟨Int.emod_nonneg _ (by omega), Int.emod_lt_of_pos _ hb⟩
def OnePost (D : Nat) (w : World) (ib lb : Nat) (lo hi : Int) (e : Ending) (w' : World) : Prop := ∃ r : Int, e = .returned (.int .i64 r) ∧ (lo ≤ r ∧ r ≤ hi) ∧ NxS D w' ib lb ∧ Keep [ib] w w'

end Go.Proofs.YtalcinepeofmcaaDoor
/- copy of elements of several cells, within one block; what a block holds that repeats one element. No program is named here. -/
namespace Go.Proofs.YtalcinepeofmcaaDoor
open Go Go.RowKit
set_option linter.unusedVariables false
variable {P : Program}

theorem heap_setCells {g : Nat} {t : TypeId} {fr : Nat × Nat} : ∀ (vs : List Value) (o : Nat) (w : World) (cur : Array Value), w.heap[g]? = some (.cells cur t fr) → o + vs.length ≤ cur.size →
    ∃ cur' : Array Value, (w.setCells g o vs).heap[g]? = some (.cells cur' t fr) ∧ cur'.size = cur.size ∧ (∀ j, j < vs.length → cur'[o + j]? = vs[j]?) ∧ (∀ j, j < o ∨ o + vs.length ≤ j → cur'[j]? = cur[j]?)
  | [], o, w, cur, h, _ => ⟨cur, h, rfl, fun j hj => by simp at hj, fun _ _ => rfl⟩
  | v :: r, o, w, cur, h, hl => by
    obtain ⟨cur', h1, h2, h3, h4⟩ := heap_setCells r (o + 1) (w.setCell ⟨g, o, none⟩ v) (cur.setIfInBounds o v) (heap_set h o v) (by simp at hl ⊢; omega)
    simp only [List.length_cons] at hl ⊢
    refine ⟨cur', h1, by rw [h2]; simp, fun j hj => ?_, fun j hj => ?_⟩
    · cases j with
      | zero =>
        rw [h4 _ (by omega), Nat.add_zero, Array.getElem?_setIfInBounds_self_of_lt (by omega)]; rfl
      | succ j =>
        have := h3 j (by omega)
        rw [show o + (j + 1) = o + 1 + j from by omega, this]; rfl
    · rw [h4 j (by omega), Array.getElem?_setIfInBounds_ne (by omega)]
theorem Keep.setCells {S : List Nat} {w w' : World} (h : Keep S w w') {g : Nat} (hg : g ∈ S ∨ w.heap.size ≤ g) : ∀ (vs : List Value) (o : Nat), Keep S w (w'.setCells g o vs)
  | [], _ => h
  | v :: r, o => by
    rw [World.setCells]
    exact Keep.setCells (w' := w'.setCell ⟨g, o, none⟩ v) (h.setCell hg v) hg r (o + 1)

theorem run_copy_N (w : World) (dT sT ty elem : TypeId) (size b o dLen dCap : Nat) (a : Addr) (sLen sCap : Nat) (cs : List Value)
    (hu : P.underlying dT = some (.slice elem)) (hs : (P.info? elem).map (·.size) = some size) (hn : cs.length = Nat.min sLen dLen * size)
    (hsrc : ∀ j v, cs[j]? = some v → w.cell? (a.add j) = some v) (hc : ∀ j, j < cs.length → (w.cell? ⟨b, o + j, none⟩).isSome = true) (hf : ∀ j, j < cs.length → w.frozen? ⟨b, o + j, none⟩ = false) (h1 : ∀ v ∈ cs, v.oneCell' = true) :
    (Builtin.copy_ #[dT, sT] ty #[.slice (some ⟨b, o, none⟩) dLen dCap, .slice (some a) sLen sCap]).run P w = .ok (goInt (Nat.min sLen dLen)) (w.setCells b o cs) := by
  have hl := run_loadCells_list (P := P) w a cs hsrc
  have hst := run_storeCells_cells (P := P) b o cs 0 w (by simpa using hc) (by simpa using hf) h1
  cases hq : P.info? elem with
  | none => simp [hq] at hs
  | some i =>
    have hi : i.size = size := by simpa [hq] using hs
    simp [Builtin.copy_, run_underlying hu, Builtin.lenOf, Builtin.firstCells, sizeOf, typeInfo, hq, hi, ← hn, hl, hst]

/-- the first n elements of the block are the one whose cells are ys -/
def RepSt (ys : List Value) (n len : Nat) (cur : Array Value) : Prop := cur.size = len * ys.length ∧ ∀ j, j < n * ys.length → cur[j]? = ys[j % ys.length]?

/-- a copy of the first m elements behind the first n -/
theorem rep_copy {w : World} {dT sT ty elem : TypeId} {g n m len dCap sCap : Nat} {ys : List Value} {cur : Array Value} {t : TypeId}
    (hu : P.underlying dT = some (.slice elem)) (hs : (P.info? elem).map (·.size) = some ys.length) (hy : 0 < ys.length) (h1 : ∀ v ∈ ys, v.oneCell' = true)
    (hh : w.heap[g]? = some (.cells cur t (0, 0))) (hR : RepSt ys n len cur) (hn : n ≤ len) (hm : m = min n (len - n)) :
    ∃ w', (Builtin.copy_ #[dT, sT] ty #[.slice (some ⟨g, n * ys.length, none⟩) (len - n) dCap, .slice (some ⟨g, 0, none⟩) n sCap]).run P w = .ok (goInt m) w' ∧
      (∃ cur', w'.heap[g]? = some (.cells cur' t (0, 0)) ∧ RepSt ys (n + m) len cur') ∧ Keep [g] w w' ∧ w'.heap.size = w.heap.size := by
  obtain ⟨hz, hv⟩ := hR
  have hmn : m ≤ n := by omega
  have hms : n * ys.length + m * ys.length ≤ len * ys.length := by rw [← Nat.add_mul]; exact Nat.mul_le_mul_right _ (by omega)
  have hmn' : m * ys.length ≤ n * ys.length := Nat.mul_le_mul_right _ hmn
  have hlen : ((List.range (m * ys.length)).map fun j => ys.getD (j % ys.length) undef).length = m * ys.length := by simp
  obtain ⟨cs, hcs⟩ : ∃ cs : List Value, cs = (List.range (m * ys.length)).map fun j => ys.getD (j % ys.length) undef := ⟨_, rfl⟩
  have hcl : cs.length = m * ys.length := by rw [hcs]; exact hlen
  have hcg : ∀ j, j < m * ys.length → cs[j]? = ys[j % ys.length]? := fun j hj => by
    have hlt : j % ys.length < ys.length := Nat.mod_lt _ hy
    rw [hcs, List.getElem?_map, List.getElem?_range hj, List.getElem?_eq_getElem hlt]
    simp [List.getD_eq_getElem?_getD, List.getElem?_eq_getElem hlt]
  have hc := cell_of_heap hh
  obtain ⟨cur', e1, e2, e3, e4⟩ := heap_setCells cs (n * ys.length) w cur hh (by omega)
  refine ⟨w.setCells g (n * ys.length) cs, ?_, ⟨cur', e1, ?_⟩, (Keep.refl _ _).setCells (.inl (by simp)) _ _, ?_⟩
  · have hmin : Nat.min n (len - n) = m := hm.symm
    have := run_copy_N (P := P) w dT sT ty elem ys.length g (n * ys.length) (len - n) dCap ⟨g, 0, none⟩ n sCap cs hu hs (by rw [hcl, hmin])
      (fun j v hj => by
        have hjl : j < m * ys.length := by rw [← hcl]; exact (List.getElem?_eq_some_iff.1 hj).1
        rw [show (⟨g, 0, none⟩ : Addr).add j = ⟨g, j, none⟩ from by simp [Addr.add]; omega, hc, hv j (by omega), ← hcg j hjl]; exact hj)
      (fun j hj => by
        rw [hc, Array.getElem?_eq_getElem (by omega)]; rfl)
      (fun j hj => frozen_of_heap hh _)
      (fun v hv' => by
        obtain ⟨j, hj, rfl⟩ := List.mem_iff_getElem.1 hv'
        have hjm : j < m * ys.length := by omega
        have hlt : j % ys.length < ys.length := Nat.mod_lt _ hy
        have := hcg j hjm
        rw [List.getElem?_eq_getElem hj, List.getElem?_eq_getElem hlt] at this
        injection this with this
        rw [this]
        exact h1 _ (List.getElem_mem hlt))
    rw [hmin] at this
    exact this
  · refine ⟨by rw [e2, hz], fun j hj => ?_⟩
    rw [Nat.add_mul] at hj
    by_cases h : j < n * ys.length
    · rw [e4 j (.inl h), hv j h]
    · have := e3 (j - n * ys.length) (by omega)
      rw [show n * ys.length + (j - n * ys.length) = j from by omega] at this
      rw [this, hcg _ (by omega)]
      have e : (j - n * ys.length) % ys.length = j % ys.length := by
        conv => rhs; rw [show j = (j - n * ys.length) + n * ys.length from by omega]
        rw [Nat.add_mul_mod_self_right]
      rw [e]
  · have : ∀ (vs : List Value) (o : Nat) (w : World), (w.setCells g o vs).heap.size = w.heap.size := by
      intro vs
      induction vs with
      | nil => intro _ _; rfl
      | cons v r ih => intro o w; rw [World.setCells, ih]; simp [World.setCell]
    exact this _ _ _
/-- the first copy: one element -/
theorem rep_first {w : World} {dT sT ty elem : TypeId} {g len dCap sCap : Nat} {ad : Addr} {ys : List Value} {cur : Array Value} {t : TypeId}
    (hu : P.underlying dT = some (.slice elem)) (hs : (P.info? elem).map (·.size) = some ys.length) (hy : 0 < ys.length) (h1 : ∀ v ∈ ys, v.oneCell' = true)
    (hh : w.heap[g]? = some (.cells cur t (0, 0))) (hz : cur.size = len * ys.length) (hl : 0 < len) (hsrc : ∀ j v, ys[j]? = some v → w.cell? (ad.add j) = some v) :
    ∃ w', (Builtin.copy_ #[dT, sT] ty #[.slice (some ⟨g, 0, none⟩) len dCap, .slice (some ad) 1 sCap]).run P w = .ok (goInt 1) w' ∧
      (∃ cur', w'.heap[g]? = some (.cells cur' t (0, 0)) ∧ RepSt ys 1 len cur') ∧ Keep [g] w w' := by
  have hfit : ys.length ≤ len * ys.length := Nat.le_mul_of_pos_left _ hl
  obtain ⟨cur', e1, e2, e3, e4⟩ := heap_setCells ys 0 w cur hh (by omega)
  refine ⟨w.setCells g 0 ys, ?_, ⟨cur', e1, by rw [e2, hz], fun j hj => ?_⟩, (Keep.refl _ _).setCells (.inl (by simp)) _ _⟩
  · have hmin : Nat.min 1 len = 1 := by simp [Nat.min_def]; omega
    have := run_copy_N (P := P) w dT sT ty elem ys.length g 0 len dCap ad 1 sCap ys hu hs (by rw [hmin, Nat.one_mul]) hsrc
      (fun j hj => by rw [cell_of_heap hh, Array.getElem?_eq_getElem (by omega)]; rfl) (fun j hj => frozen_of_heap hh _) h1
    rw [hmin] at this
    exact this
  · rw [Nat.one_mul] at hj
    have := e3 j hj
    rw [Nat.zero_add] at this
    rw [this, Nat.mod_eq_of_lt hj]
end Go.Proofs.YtalcinepeofmcaaDoor
/- slices.Repeat of one element (printed by wip/tools/repeat.py) -/
namespace Go.Proofs.YtalcinepeofmcaaDoor
open Go Go.RowKit Go.Lib Sp
set_option linter.unusedVariables false
set_option linter.unusedSimpArgs false

theorem wpList_copy_run {P : Program} {w : World} {ops : Array Oper} {rest : List Oper} {o : Oper} {a : Act} {Q : Exit → Act → World → Prop} (hgd : o.guard = none) (d s : Operand) (dT sT : TypeId)
    (ho : o.op = .call { callee := .builtin .copy, args := #[d, s], argTypes := #[dT, sT] }) (dv sv : Value) (hd : a.eval d = dv) (hs : a.eval s = sv) (v : Value) (w' : World)
    (hrun : (Builtin.copy_ #[dT, sT] o.type #[dv, sv]).run P w = .ok v w') (h : wpList P ops Q rest (a.put o.dst v) w') : wpList P ops Q (o :: rest) a w := by
  refine wpList_plain hgd fun K hK => ?_
  unfold Oper.wp
  simp [execOp, ho, resolve, invoke, builtin, hd, hs, hrun, Result.andThen]
  exact hK _ _ h
set_option linter.unusedVariables false
def RpCelV (W0 : World) (g n m len : Nat) (ys : List Value) : Nat → Value → Prop
  | 0, v => v = .int .i64 n
  | 1, v => v = .slice (some ⟨g, 0, none⟩) len len
  | 2, v => v = .int .i64 n
  | 3, v => v = .slice (some ⟨g, n * 8, none⟩) (len - n) (len - n)
  | 4, v => v = .slice (some ⟨g, 0, none⟩) len len
  | 5, v => v = .int .i64 n
  | 6, v => v = .slice (some ⟨g, 0, none⟩) n len
  | 7, v => v = .int .i64 m
  | 8, v => v = .int .i64 ((n : Int) + m)
  | 9, v => v = .int .i64 ((n : Int) + m)
  | _, _ => True
def RpCelW (W0 : World) (g n m len : Nat) (ys : List Value) (l : Nat → Bool) (w : World) : Prop := Keep [g] W0 w ∧ ∃ cur, w.heap[g]? = some (.cells cur 30 (0, 0)) ∧ RepSt ys (if l 7 then n + m else n) len cur

set_option maxRecDepth 100000 in
set_option maxHeartbeats 2000000 in
theorem RpCel_any (A : Option Addr) (ca : Nat) (ys : List Value) (hy : ys.length = 8) (h1 : ∀ v ∈ ys, v.oneCell' = true) (len : Nat) (hl : 0 < len) (hl2 : len < 100000) (w : World) (hr : Rd w 8 A 1 ys) :
    Calls Tryd.prog 17 #[.slice A 1 ca, .int .i64 len] w fun e w' => ∃ g, e = .returned (.slice (some ⟨g, 0, none⟩) len len) ∧ (∃ cur, w'.heap[g]? = some (.cells cur 30 (0, 0)) ∧ RepSt ys len len cur) ∧ w.heap.size ≤ g ∧ Below w.heap.size w w' := by
  obtain ⟨b, off, rfl, hb, hc⟩ := hr.2 (by omega)
  have HY := Lib.hid (And.intro hy h1)
  obtain ⟨i0, hi, hz0, hz1, hz2⟩ := info_parts (show (Tryd.prog.info? 30).map (fun i => (i.zero, i.size, i.bytes)) = some (some (.agg #[.int .i64 0, .int .i64 0, .int .i64 0, .int .i64 0, .int .i64 0, .int .i64 0, .int .i64 0, .int .i64 0]), 8, 64) from by kernel_rfl)
  obtain ⟨C, hC⟩ : ∃ C, C = madeCells (Value.agg #[.int .i64 0, .int .i64 0, .int .i64 0, .int .i64 0, .int .i64 0, .int .i64 0, .int .i64 0, .int .i64 0]).cells (len * 8) := ⟨_, rfl⟩
  have hCs : C.size = len * 8 := by rw [hC, size_madeCells]
  have hmk : ∀ w : World, (Instr.makeSlice 32 (.int .i64 len) (.int .i64 len)).run Tryd.prog w = .ok (.slice (some ⟨w.heap.size, 0, none⟩) len len) (w.alloc (.cells C 30)) := fun w => by
    have := run_makeSlice (P := Tryd.prog) w 32 30 i0 _ Tryd.underlying32 hi hz0 .i64 .i64 (len : Int) (len : Int) (by omega) (by omega) (by rw [hz1]; simp; omega) (by rw [hz2]; omega) (by omega)
    rw [hz1] at this
    simp only [Int.toNat_natCast] at this
    rw [hC]; exact this
  have hu1 : IntKind.u64.wrap (len : Int) = (len : Int) := by rw [IntKind.wrap_u64]; omega
  have hu2 : IntKind.i64.wrap (len : Int) = (len : Int) := by rw [IntKind.wrap_i64]; omega
  have n1 : ¬ (len : Int) < 0 := by omega
  have n2 : ¬ (9223372036854775807 : Int) < (len : Int) := by omega
  obtain ⟨W, hW⟩ : ∃ W, W = w.alloc (.cells C 30) := ⟨_, rfl⟩
  obtain ⟨g, hg⟩ : ∃ g, g = w.heap.size := ⟨_, rfl⟩
  have hh : W.heap[g]? = some (.cells C 30 (0, 0)) := by rw [hW, hg]; exact heap_alloc_new _ _
  have bW : Below w.heap.size w W := by rw [hW]; exact (Below.refl _ _).alloc (Nat.le_refl _) _
  have hgw : w.heap.size ≤ g := by omega
  obtain ⟨w2, hrun, ⟨cur1, q1, q2⟩, q3⟩ := rep_first (P := Tryd.prog) (w := W) (dT := 32) (sT := 32) (ty := 3) (dCap := len) (sCap := ca) (ad := ⟨b, off, none⟩) (ys := ys) Tryd.underlying32 (by rw [hy]; kernel_rfl) (by omega) h1 hh (by rw [hCs, hy]) hl
    (fun j v hj => by
      have := hc j v hj
      rw [show (⟨b, off, none⟩ : Addr).add j = ⟨b, off + j, none⟩ from by by_cases h : j = 0 <;> simp [Addr.add, h]]
      exact (bW.cell (p := ⟨b, off + j, none⟩) hb).trans this)
  have HR := Lib.hid (And.intro hh (And.intro bW (And.intro hgw (And.intro q1 (And.intro q2 q3)))))
  have HRUN := Lib.hid hrun
  clear hh bW q1 q2 q3 hrun hc hr hi hz0 hz1 hz2 hC hCs hy h1
  go_enter Tryd.func17, Tryd.ntmps17
  go_upto_region 7 with (go_at_call 47; refine (mul_any len (by omega) _).mono ?_; rintro e w' ⟨rfl, rfl⟩)
  rw [← hW, ← hg]
  clear hmk hu1 hu2 n1 n2 hW hg
  go_wp2_with (refine wpList_copy_run rfl (.tmp 31) (.tmp 32) 32 32 rfl _ _ rfl rfl _ _ HRUN.out ?_)
  go_loopw [8] (fun v wr => ∃ (n : Nat) (cur0 : Array Value), 1 ≤ n ∧ n ≤ len ∧ v = .int .i64 n ∧ wr.heap[g]? = some (.cells cur0 30 (0, 0)) ∧ RepSt ys n len cur0 ∧ Keep [g] W wr) (fun v _ => len - (intOf v).toNat)
  case atStart => exact ⟨1, cur1, by omega, by omega, rfl, HR.out.2.2.2.1, HR.out.2.2.2.2.1, HR.out.2.2.2.2.2⟩
  case round =>
    obtain ⟨n, cur0, hn1, hn2, rfl, hcur, hrep, hK⟩ := hrel
    have HC := Lib.hid (And.intro hcur hrep)
    have HK := Lib.hid hK
    clear hcur hrep hK
    by_cases hlt : n < len
    · obtain ⟨m, hm⟩ : ∃ m, m = min n (len - n) := ⟨_, rfl⟩
      have hmb : 1 ≤ m ∧ m ≤ len - n := by omega
      obtain ⟨hm1, hm2⟩ := hmb
      have HM := Lib.hid hm
      have hlt' : (n : Int) < (len : Int) := by omega
      clear hm
      go_upto_region 9 with fail
      refine wp_region_steps (σ := Unit) (by kernel_rfl) (by kernel_rfl) (fun _ jx vx _ => RpCelV wr g n m len ys jx vx) (fun _ ly wx => RpCelW wr g n m len ys ly wx) () ?_ ?_ ?_
      · exact ⟨(Keep.refl _ _).drew, cur0, HC.out.1, by rw [if_neg (by simp)]; exact HC.out.2⟩
      · simp only [AllFrom, Nat.zero_add, Nat.reduceAdd]
        refine ⟨?_, ?_, ?_, ?_, ?_, ?_, ?_, ?_, ?_, ?_, trivial⟩
        · refine step_pure fun sg ly a wr hl hd hW hF => ?_
          have ny8_8 := hF.notYet 0 8 hl (by kernel_rfl)
          have ny8 := hF.notYet 8 9 ny8_8 (by kernel_rfl)
          have et8 := hF.was 9 8 ny8 (by kernel_rfl)
          simp [Act.eval] at et8
          exact ⟨by simpa [RpCelW, upd] using hW, .int .i64 n, by go_simp, rfl⟩
        · refine step_pure fun sg ly a wr hl hd hW hF => ?_
          have et7 := hF.old 7 (by kernel_rfl)
          simp [Act.eval] at et7
          exact ⟨by simpa [RpCelW, upd] using hW, .slice (some ⟨g, 0, none⟩) len len, by go_simp, rfl⟩
        · refine step_pure fun sg ly a wr hl hd hW hF => ?_
          have ny8_3 := hF.notYet 2 3 hl (by kernel_rfl)
          have ny8_7 := hF.notYet 3 7 ny8_3 (by kernel_rfl)
          have ny8_8 := hF.notYet 7 8 ny8_7 (by kernel_rfl)
          have ny8 := hF.notYet 8 9 ny8_8 (by kernel_rfl)
          have et8 := hF.was 9 8 ny8 (by kernel_rfl)
          simp [Act.eval] at et8
          exact ⟨by simpa [RpCelW, upd] using hW, .int .i64 n, by go_simp, rfl⟩
        · refine step_pure fun sg ly a wr hl hd hW hF => ?_
          simp [Region.binds] at hd
          have et39 := hF.new 1 39 (by simp [hd]) rfl
          simp [RpCelV, Act.eval] at et39
          have et40 := hF.new 2 40 (by simp [hd]) rfl
          simp [RpCelV, Act.eval] at et40
          have b1 : (0 : Int) ≤ (n : Int) := by omega
          have b2 : (n : Int) ≤ (len : Int) := by omega
          have b3 : n < len := hlt
          have b4 : ¬ len = n := by omega
          exact ⟨by simpa [RpCelW, upd] using hW, .slice (some ⟨g, n * 8, none⟩) (len - n) (len - n), by go_simp, rfl⟩
        · refine step_pure fun sg ly a wr hl hd hW hF => ?_
          have et7 := hF.old 7 (by kernel_rfl)
          simp [Act.eval] at et7
          exact ⟨by simpa [RpCelW, upd] using hW, .slice (some ⟨g, 0, none⟩) len len, by go_simp, rfl⟩
        · refine step_pure fun sg ly a wr hl hd hW hF => ?_
          have ny8_6 := hF.notYet 5 6 hl (by kernel_rfl)
          have ny8_7 := hF.notYet 6 7 ny8_6 (by kernel_rfl)
          have ny8_8 := hF.notYet 7 8 ny8_7 (by kernel_rfl)
          have ny8 := hF.notYet 8 9 ny8_8 (by kernel_rfl)
          have et8 := hF.was 9 8 ny8 (by kernel_rfl)
          simp [Act.eval] at et8
          exact ⟨by simpa [RpCelW, upd] using hW, .int .i64 n, by go_simp, rfl⟩
        · refine step_pure fun sg ly a wr hl hd hW hF => ?_
          simp [Region.binds] at hd
          have et42 := hF.new 4 42 (by simp [hd]) rfl
          simp [RpCelV, Act.eval] at et42
          have et43 := hF.new 5 43 (by simp [hd]) rfl
          simp [RpCelV, Act.eval] at et43
          have b1 : (0 : Int) ≤ (n : Int) := by omega
          have b2 : (n : Int) ≤ (len : Int) := by omega
          exact ⟨by simpa [RpCelW, upd] using hW, .slice (some ⟨g, 0, none⟩) n len, by go_simp, rfl⟩
        · refine step_run fun sg ly a wr hl hd hW hF => ?_
          simp [Region.binds] at hd
          have et41 := hF.new 3 41 (by simp [hd]) rfl
          simp [RpCelV, Act.eval] at et41
          have et44 := hF.new 6 44 (by simp [hd]) rfl
          simp [RpCelV, Act.eval] at et44
          obtain ⟨hK, cur, hh, hR⟩ := hW
          rw [if_neg (by simp [hl])] at hR
          obtain ⟨w', hrun, ⟨cur', h1, h2⟩, h3, _⟩ := rep_copy (P := Tryd.prog) (dT := 32) (sT := 32) (ty := 3) (dCap := len - n) (sCap := len) (m := m) Tryd.underlying32 (by rw [HY.out.1]; kernel_rfl) (by rw [HY.out.1]; decide) HY.out.2 hh hR (by omega) HM.out
          rw [HY.out.1] at hrun
          refine ⟨.int .i64 m, w', (), ?_, ⟨hK.trans h3 (by simp), cur', h1, by rw [if_pos (by simp [upd])]; exact h2⟩, rfl, fun _ _ _ h => h⟩
          simp [execOp, resolve, invoke, builtin, Act.eval, et41, et44, hrun, Result.andThen, goInt]
        · refine step_pure fun sg ly a wr hl hd hW hF => ?_
          simp [Region.binds] at hd
          have et38 := hF.new 0 38 (by simp [hd]) rfl
          simp [RpCelV, Act.eval] at et38
          have et45 := hF.new 7 45 (by simp [hd]) rfl
          simp [RpCelV, Act.eval] at et45
          have ew := IntWalk.i64_in ((n : Int) + m) (by omega)
          exact ⟨by simpa [RpCelW, upd] using hW, .int .i64 ((n : Int) + m), by go_simp, rfl⟩
        · refine step_pure fun sg ly a wr hl hd hW hF => ?_
          simp [Region.binds] at hd
          have et46 := hF.new 8 46 (by simp [hd]) rfl
          simp [RpCelV, Act.eval] at et46
          exact ⟨by simpa [RpCelW, upd] using hW, .int .i64 ((n : Int) + m), by go_simp, rfl⟩
      intro _ a w5 hW hF
      have e8 := hF.new 9 8 (by decide) rfl
      obtain ⟨f, hf, rfl⟩ := hF.lit
      rw [← hf] at e8
      simp only [RpCelV] at e8
      obtain ⟨hK5, cur5, h5, hR5⟩ := hW
      simp only [List.length_cons, List.length_nil, Nat.reduceAdd, Nat.reduceLT, decide_true, if_true] at hR5
      have H5 := Lib.hid (And.intro hK5 (And.intro h5 hR5))
      clear hf hF hK5 h5 hR5
      simp only [List.filterMap, List.foldl, List.setIfInBounds_toArray, List.set_cons_succ, List.set_cons_zero, e8]
      clear e8
      go_wp2_with fail
      go_roundw
      case measure => simp [intOf]; omega
      case rel => exact ⟨n + m, cur5, by omega, by omega, by simp, H5.out.2.1, H5.out.2.2, HK.out.trans H5.out.1 (by simp)⟩
    · obtain rfl : n = len := by omega
      go_wp2_with fail
      go_ret
      exact ⟨g, rfl, ⟨cur0, HC.out.1, HC.out.2⟩, HR.out.2.2.1, HR.out.2.1.trans (HK.out.below HR.out.2.1.size (by simpa using HR.out.2.2.1))⟩
end Go.Proofs.YtalcinepeofmcaaDoor
/- ice.Blank, of right sides and hour -/
namespace Go.Proofs.YtalcinepeofmcaaDoor
open Go Go.RowKit Go.Lib Sp
set_option linter.unusedVariables false
set_option linter.unusedSimpArgs false

theorem chart_results {F : Func} {r s : Nat} (hF : F.results = #[.cell r 34, .tmp s]) {W : World} {b : Nat} {x y z : Int} {A : Option Addr} {n c : Nat} (h : W.heap[b]? = some (.cells #[.int .i64 x, .int .i64 y, .int .i64 z, .slice A n c] 34 (0, 0))) (tmps : Array Value) (v : Value) (hr : tmps.getD r undef = .pointer (some ⟨b, 0, none⟩)) (hs : tmps.getD s undef = v) :
    (results F tmps).run Tryd.prog W = .ok (.tuple #[.agg #[.int .i64 x, .int .i64 y, .int .i64 z, .slice A n c], v]) W := by
  have g4 : tmps[r]?.getD undef = .pointer (some ⟨b, 0, none⟩) := by simpa using hr
  have g5 : tmps[s]?.getD undef = v := by simpa using hs
  have c0 : W.cell? ⟨b, 0, none⟩ = some (.int .i64 x) := (cell_of_heap h 0).trans rfl
  have c1 : W.cell? ⟨b, 1, none⟩ = some (.int .i64 y) := (cell_of_heap h 1).trans rfl
  have c2 : W.cell? ⟨b, 2, none⟩ = some (.int .i64 z) := (cell_of_heap h 2).trans rfl
  have c3 : W.cell? ⟨b, 3, none⟩ = some (.slice A n c) := (cell_of_heap h 3).trans rfl
  simp [results, hF, g4, g5, asAddr, go_sem, c0, c1, c2, c3]
theorem celW_rd (W : World) : Rd (W.alloc (.cells #[.int .i64 0, .int .i64 100, .int .i64 0, .int .i64 400, .int .i64 0, .int .i64 100, .int .i64 0, .int .i64 3] 30)) 8 (some ⟨W.heap.size, 0, none⟩) 1 (cel celW) :=
  ⟨rfl, fun _ => ⟨_, 0, rfl, by simp, fun j u hu => by rw [Nat.zero_add, World.cell?_alloc_new]; simpa [cel, celW] using hu⟩⟩
theorem cel_one (x : Cel) : ∀ v ∈ cel x, v.oneCell' = true := by
  intro u hx
  simp [cel] at hx
  rcases hx with rfl | rfl | rfl | rfl | rfl | rfl | rfl | rfl <;> rfl

def BlankPost (w : World) (a b h : Int) (n : Nat) (e : Ending) (w' : World) : Prop :=
  ∃ g, e = .returned (.tuple #[.agg #[.int .i64 a, .int .i64 b, .int .i64 h, .slice (some ⟨g, 0, none⟩) n n], .int .i64 0]) ∧ (∃ cur, w'.heap[g]? = some (.cells cur 30 (0, 0)) ∧ RepSt (cel celW) n n cur) ∧ w.heap.size ≤ g ∧ Below w.heap.size w w'
set_option maxRecDepth 100000 in
set_option maxHeartbeats 2000000 in
theorem blank_ok (a b h : Int) (n : Nat) (hn : a * b = n) (h0 : sizeE a b h = 0) (w : World) :
    Calls Tryd.prog 6 #[.int .i64 a, .int .i64 b, .int .i64 h] w (BlankPost w a b h n) := by
  obtain ⟨⟨a1, a2⟩, ⟨b1, b2⟩, p1, p2⟩ := size_zero h0
  have hn1 : 0 < n := by
    have := Int.mul_pos (show (0 : Int) < a by omega) (show (0 : Int) < b by omega)
    omega
  have hn2 : n ≤ 1024 := by omega
  obtain ⟨W, hW⟩ : ∃ W, W = w.alloc (.cells #[.int .i64 0, .int .i64 0, .int .i64 0, .slice none 0 0] 34) := ⟨_, rfl⟩
  obtain ⟨rb, hrb⟩ : ∃ b, b = w.heap.size := ⟨_, rfl⟩
  have hh : W.heap[rb]? = some (.cells #[.int .i64 0, .int .i64 0, .int .i64 0, .slice none 0 0] 34 (0, 0)) := by rw [hW, hrb]; exact heap_alloc_new _ _
  have bW : Below w.heap.size w W := by rw [hW]; exact (Below.refl _ _).alloc (Nat.le_refl _) _
  have hrw : w.heap.size ≤ rb := by omega
  have ks := size_any a b h W
  rw [h0] at ks
  have kr := fun W => RpCel_any (some ⟨World.heap W |>.size, 0, none⟩) 1 (cel celW) rfl (cel_one _) n hn1 (by omega) _ (celW_rd W)
  have hw1 : IntKind.i64.wrap (a * b) = (n : Int) := by rw [hn]; exact IntWalk.i64_in _ (by omega)
  have HR := Lib.hid (And.intro hh (And.intro bW (And.intro hrw (And.intro ks kr))))
  clear hh bW hrw ks kr hn h0 p1 p2
  go_enter Tryd.func6, Tryd.ntmps6
  go_upto_region 1 with fail
  rw [← hW, ← hrb]
  clear hW hrb
  go_upto_region 4 with (go_at_call 16; refine HR.out.2.2.2.1.mono ?_; rintro e w' ⟨rfl, rfl⟩)
  go_wp2_with fail
  refine (Whole_any _).mono ?_
  rintro e w1 ⟨rfl, b1⟩
  go_wp2_with fail
  refine (HR.out.2.2.2.2 w1).mono ?_
  rintro e w2 ⟨g, rfl, hg, hgw, b2⟩
  have b02 : Below w.heap.size w w2 := HR.out.2.1.trans ((b1.trans ((((Below.refl _ _).alloc (Nat.le_refl _) _).trans (b2.mono (by simp))).mono b1.size)).mono HR.out.2.1.size)
  have bW2 : Below W.heap.size W w2 := b1.trans ((((Below.refl _ _).alloc (Nat.le_refl _) _).trans (b2.mono (by simp))).mono b1.size)
  have hh2 := (bW2.block _ (heap_lt HR.out.1)).trans HR.out.1
  have hgr : rb ≠ g := by have := heap_lt HR.out.1; have := b1.size; simp at hgw; omega
  have c0 := (cell_of_heap hh2 0).trans rfl
  have c1 := (cell_of_heap hh2 1).trans rfl
  have c2 := (cell_of_heap hh2 2).trans rfl
  have c3 := (cell_of_heap hh2 3).trans rfl
  have f0 := frozen_of_heap hh2 0
  have f1 := frozen_of_heap hh2 1
  have f2 := frozen_of_heap hh2 2
  have f3 := frozen_of_heap hh2 3
  have zo := heap_lt hh2
  have hfin : ((((w2.setCell ⟨rb, 0, none⟩ (.int .i64 a)).setCell ⟨rb, 1, none⟩ (.int .i64 b)).setCell ⟨rb, 2, none⟩ (.int .i64 h)).setCell ⟨rb, 3, none⟩ (.slice (some ⟨g, 0, none⟩) n n)).heap[rb]? = some (.cells #[.int .i64 a, .int .i64 b, .int .i64 h, .slice (some ⟨g, 0, none⟩) n n] 34 (0, 0)) := heap_set (heap_set (heap_set (heap_set hh2 0 (.int .i64 a)) 1 (.int .i64 b)) 2 (.int .i64 h)) 3 (.slice (some ⟨g, 0, none⟩) n n)
  have bfin : Below w.heap.size w ((((w2.setCell ⟨rb, 0, none⟩ (.int .i64 a)).setCell ⟨rb, 1, none⟩ (.int .i64 b)).setCell ⟨rb, 2, none⟩ (.int .i64 h)).setCell ⟨rb, 3, none⟩ (.slice (some ⟨g, 0, none⟩) n n)) := (((b02.setCell (p := ⟨rb, 0, none⟩) HR.out.2.2.1 _).setCell (p := ⟨rb, 1, none⟩) HR.out.2.2.1 _).setCell (p := ⟨rb, 2, none⟩) HR.out.2.2.1 _).setCell (p := ⟨rb, 3, none⟩) HR.out.2.2.1 _
  have hgf : ∃ cur, ((((w2.setCell ⟨rb, 0, none⟩ (.int .i64 a)).setCell ⟨rb, 1, none⟩ (.int .i64 b)).setCell ⟨rb, 2, none⟩ (.int .i64 h)).setCell ⟨rb, 3, none⟩ (.slice (some ⟨g, 0, none⟩) n n)).heap[g]? = some (.cells cur 30 (0, 0)) ∧ RepSt (cel celW) n n cur := by
    obtain ⟨cur, q1, q2⟩ := hg
    exact ⟨cur, heap_set_ne (heap_set_ne (heap_set_ne (heap_set_ne q1 (Ne.symm hgr) _) (Ne.symm hgr) _) (Ne.symm hgr) _) (Ne.symm hgr) _, q2⟩
  have hgw' : w.heap.size ≤ g := by have := b1.size; have := HR.out.2.1.size; simp at hgw; omega
  have H3 := Lib.hid (And.intro hfin (And.intro bfin (And.intro hgf hgw')))
  clear hh2 hfin bfin hgf hgw' hgw hg b1 b2 b02 bW2 hgr
  go_wp2_with fail
  exact bodyPost_ret (chart_results (r := 6) (s := 7) rfl H3.out.1 _ _ rfl rfl) rfl ⟨g, rfl, H3.out.2.2.1, H3.out.2.2.2, H3.out.2.1⟩
end Go.Proofs.YtalcinepeofmcaaDoor
/- RestrictSafe: the law's walk (printed by wip/tools/safe.py) -/
namespace Go.Proofs.YtalcinepeofmcaaDoor
open Go Go.RowKit Go.Lib Sp Hu
set_option linter.unusedVariables false
set_option linter.unusedSimpArgs false

/-- some of the things, in another order -/
theorem Own.selS {D : Nat} {W0 w : World} {L : List It} (h : Own D W0 L w) (L' : List It) (f : Nat → Nat) (hf : ∀ a i, L'[a]? = some i → L[f a]? = some i) (hinj : ∀ a b, a < L'.length → b < L'.length → f a = f b → a = b) : Own D W0 L' w :=
  ⟨h.bel, h.lo, fun a i hi => h.at_ (f a) i (hf a i hi), fun a b i j hi hj hab => h.dis (f a) (f b) i j (hf a i hi) (hf b j hj) (fun e => hab (hinj a b (List.getElem?_eq_some_iff.1 hi).1 (List.getElem?_eq_some_iff.1 hj).1 e))⟩
theorem Own.one3 {D : Nat} {W0 w : World} {L : List It} (h : Own D W0 L w) {i0 i1 i2 : It} {a b c : Nat} (h0 : L[a]? = some i0) (h1 : L[b]? = some i1) (h2 : L[c]? = some i2) (hab : a ≠ b ∧ a ≠ c ∧ b ≠ c) : Own D W0 [i0, i1, i2] w := by
  refine h.selS _ (fun k => if k = 0 then a else if k = 1 then b else c) ?_ ?_
  · intro k i hi
    match k with
    | 0 => injection hi with hi; subst hi; exact h0
    | 1 => injection hi with hi; subst hi; exact h1
    | 2 => injection hi with hi; subst hi; exact h2
    | (n + 3) => cases hi
  · intro x y hx hy e
    simp only [List.length_cons, List.length_nil] at hx hy
    obtain rfl | rfl | rfl : x = 0 ∨ x = 1 ∨ x = 2 := by omega
    all_goals
      obtain rfl | rfl | rfl : y = 0 ∨ y = 1 ∨ y = 2 := by omega
      all_goals first | rfl | (simp at e; omega)
theorem rep_one {cur : Array Value} (h : RepSt (cel celW) 1 1 cur) : cur = celA celW := by
  obtain ⟨h1, h2⟩ := h
  have hl : (cel celW).length = 8 := rfl
  rw [hl] at h1 h2
  apply Array.ext_getElem?
  intro j
  by_cases hj : j < 8
  · rw [h2 j (by omega), Nat.mod_eq_of_lt hj]
    simp [cel, celA]
  · rw [Array.getElem?_eq_none (by omega), Array.getElem?_eq_none (by simp; omega)]

set_option maxRecDepth 100000 in
set_option maxHeartbeats 4000000 in
theorem safe_any (A0 : Option Addr) (c0 : Nat) (l0 : List Int) (A1 : Option Addr) (c1 : Nat) (l1 : List Int) (m : Int) (w : World)
    (hr0 : Rd w 1 A0 l0.length (byts l0)) (hl0 : Bytes l0) (hm0 : l0.length ≤ 9223372036854775800) (hr1 : Rd w 1 A1 l1.length (byts l1)) (hl1 : Bytes l1) (hm1 : l1.length ≤ 9223372036854775800) (hm : 0 ≤ m ∧ m ≤ 255) (G : StrG w) :
    Calls Tryd.prog 3 #[.slice A0 l0.length c0, .slice A1 l1.length c1, .int .u8 m] w fun e w' => e = .returned (.bool true) ∧ Below w.heap.size w w' := by
  have KM := Lib.hid (Made3_any A0 c0 l0 w hr0 hl0 (by omega))
  have KF := Lib.hid (fun wx (hb : Below w.heap.size w wx) => Frozen_any A1 c1 l1 wx (hr1.below hb) hl1 (by omega))
  have HGW := Lib.hid G
  clear hr0 hl0 hm0 hr1 hl1 hm1 G
  go_enter Tryd.func3, Tryd.ntmps3
  go_upto_region 2 with (first
    | (go_at_call 4; refine KM.out.mono ?_; rintro e w1 ⟨At, ct, Aw, cw, Ai, ci, s, rfl, hs0, hR, b1⟩; have H1 := Lib.hid (And.intro hs0 (And.intro hR b1)); clear hs0 hR b1)
    | (go_at_call 5; refine (KF.out w1 H1.out.2.2).mono ?_; rintro e w2 ⟨x, rfl, hx, b2⟩; have H2 := Lib.hid (And.intro hx b2); clear hx b2))
  obtain ⟨sb, hsb⟩ : ∃ b, b = w2.heap.size := ⟨_, rfl⟩
  obtain ⟨cb, hcb⟩ : ∃ b, b = w2.heap.size + 1 := ⟨_, rfl⟩
  obtain ⟨X, hX⟩ : ∃ X, X = (w2.alloc (.cells (shpV At ct Aw cw Ai ci s) 25)).alloc (.cells (celA x) 30) := ⟨_, rfl⟩
  have O1 : Own w2.heap.size w2 [.blk sb (.cells (shpV At ct Aw cw Ai ci s) 25), .blk cb (.cells (celA x) 30)] X := by
    have h := ((Own.start w2).alloc (.cells (shpV At ct Aw cw Ai ci s) 25)).alloc (.cells (celA x) 30)
    rw [hX, hsb, hcb]; simpa using h
  rw [← hcb, ← hsb, ← hX]
  have R0 : ShR At Aw Ai s w2 := H1.out.2.1.below H2.out.2
  have G0 : StrG w2 := (HGW.out.below H1.out.2.2).below H2.out.2
  have bw : Below w.heap.size w w2 := H1.out.2.2.trans (H2.out.2.mono H1.out.2.2.size)
  have HQ := Lib.hid (And.intro H1.out.1 (And.intro H2.out.1 (And.intro R0 (And.intro G0 bw))))
  have HO1 := Lib.hid O1
  have c_ := O1.heap 1 rfl
  have q0 := (cell_of_heap c_ 0).trans rfl
  have f0 := frozen_of_heap c_ 0
  have q1 := (cell_of_heap c_ 1).trans rfl
  have f1 := frozen_of_heap c_ 1
  have q4 := (cell_of_heap c_ 4).trans rfl
  have f4 := frozen_of_heap c_ 4
  have q5 := (cell_of_heap c_ 5).trans rfl
  have f5 := frozen_of_heap c_ 5
  have zc := heap_lt c_
  clear O1 hX hsb hcb R0 G0 bw c_ KM KF H1 H2 HGW
  have kbl := fun W => blank_ok 1 1 0 1 (by decide) (by decide) W
  have KBL := Lib.hid kbl
  clear kbl
  go_upto_region 3 with fail
  obtain ⟨X2, hX2⟩ : ∃ Y, Y = (((X.setCell ⟨cb, 4, none⟩ (.int .i64 0)).setCell ⟨cb, 5, none⟩ (.int .i64 0)).setCell ⟨cb, 0, none⟩ (.int .i64 100)).setCell ⟨cb, 1, none⟩ (.int .i64 100) := ⟨_, rfl⟩
  rw [← hX2]
  have O2 : Own w2.heap.size w2 [.blk sb (.cells (shpV At ct Aw cw Ai ci s) 25), .blk cb (.cells #[.int .i64 100, .int .i64 100, .int .i64 x.b0, .int .i64 x.b1, .int .i64 0, .int .i64 0, .int .i64 x.d0, .int .i64 x.d1] 30)] X2 := by
    have hh := HO1.out.set 1 rfl (w' := X2) (by rw [hX2]; exact ((((Keep.refl _ _).setCell (.inl (by simp)) _).setCell (.inl (by simp)) _).setCell (.inl (by simp)) _).setCell (.inl (by simp)) _) (by rw [hX2]; exact heap_set (heap_set (heap_set (heap_set (HO1.out.heap 1 rfl) 4 _) 5 _) 0 _) 1 _)
    exact hh
  have HO2 := Lib.hid O2
  clear O2 hX2 q0 q1 q4 q5 f0 f1 f4 f5 zc
  go_upto_region 4 with (go_at_call 6; refine (KBL.out _).mono ?_; rintro e w3 ⟨g, rfl, ⟨cur, hg, hrep⟩, hgs, b3⟩; have H3 := Lib.hid (And.intro hg (And.intro hrep (And.intro hgs b3))); clear hg hrep hgs b3)
  obtain ⟨chb, hchb⟩ : ∃ b, b = w3.heap.size := ⟨_, rfl⟩
  obtain ⟨X3, hX3⟩ : ∃ Y, Y = w3.alloc (.cells #[.int .i64 1, .int .i64 1, .int .i64 0, .slice (some ⟨g, 0, none⟩) 1 1] 34) := ⟨_, rfl⟩
  have O3 : Own w2.heap.size w2 [.blk sb (.cells (shpV At ct Aw cw Ai ci s) 25), .blk cb (.cells #[.int .i64 100, .int .i64 100, .int .i64 x.b0, .int .i64 x.b1, .int .i64 0, .int .i64 0, .int .i64 x.d0, .int .i64 x.d1] 30), .blk g (.cells (celA celW) 30), .blk chb (.cells #[.int .i64 1, .int .i64 1, .int .i64 0, .slice (some ⟨g, 0, none⟩) 1 1] 34)] X3 := by
    have hg := H3.out.1
    rw [rep_one H3.out.2.1] at hg
    have h1 := HO2.out.new H3.out.2.2.2 (i := .blk g (.cells (celA celW) 30)) hg (fun x hx => by rw [List.mem_singleton.1 hx]; exact H3.out.2.2.1)
    rw [hX3, hchb]
    exact h1.alloc _
  rw [← hX3, ← hchb]
  have HO3 := Lib.hid O3
  have s_ := O3.heap 1 rfl
  have g_ := O3.heap 2 rfl
  have h_ := O3.heap 3 rfl
  have q0 := (cell_of_heap s_ 0).trans rfl
  have q1 := (cell_of_heap s_ 1).trans rfl
  have q2 := (cell_of_heap s_ 2).trans rfl
  have q3 := (cell_of_heap s_ 3).trans rfl
  have q4 := (cell_of_heap s_ 4).trans rfl
  have q5 := (cell_of_heap s_ 5).trans rfl
  have q6 := (cell_of_heap s_ 6).trans rfl
  have q7 := (cell_of_heap s_ 7).trans rfl
  have r0 := (cell_of_heap g_ 0).trans rfl
  have f0 := frozen_of_heap g_ 0
  have r1 := (cell_of_heap g_ 1).trans rfl
  have f1 := frozen_of_heap g_ 1
  have r2 := (cell_of_heap g_ 2).trans rfl
  have f2 := frozen_of_heap g_ 2
  have r3 := (cell_of_heap g_ 3).trans rfl
  have f3 := frozen_of_heap g_ 3
  have r4 := (cell_of_heap g_ 4).trans rfl
  have f4 := frozen_of_heap g_ 4
  have r5 := (cell_of_heap g_ 5).trans rfl
  have f5 := frozen_of_heap g_ 5
  have r6 := (cell_of_heap g_ 6).trans rfl
  have f6 := frozen_of_heap g_ 6
  have r7 := (cell_of_heap g_ 7).trans rfl
  have f7 := frozen_of_heap g_ 7
  have y0 := (cell_of_heap h_ 0).trans rfl
  have y1 := (cell_of_heap h_ 1).trans rfl
  have y2 := (cell_of_heap h_ 2).trans rfl
  have y3 := (cell_of_heap h_ 3).trans rfl
  have zs := heap_lt s_
  have zg := heap_lt g_
  have zh := heap_lt h_
  clear O3 hX3 hchb s_ g_ h_ H3 KBL
  go_upto_region 7 with fail
  obtain ⟨X4, hX4⟩ : ∃ Y, Y = (((((((X3.setCell ⟨g, 0, none⟩ (.int .i64 100)).setCell ⟨g, 1, none⟩ (.int .i64 100)).setCell ⟨g, 2, none⟩ (.int .i64 x.b0)).setCell ⟨g, 3, none⟩ (.int .i64 x.b1)).setCell ⟨g, 4, none⟩ (.int .i64 0)).setCell ⟨g, 5, none⟩ (.int .i64 0)).setCell ⟨g, 6, none⟩ (.int .i64 x.d0)).setCell ⟨g, 7, none⟩ (.int .i64 x.d1) := ⟨_, rfl⟩
  rw [← hX4]
  have O4 : Own w2.heap.size w2 [.blk sb (.cells (shpV At ct Aw cw Ai ci s) 25), .blk cb (.cells #[.int .i64 100, .int .i64 100, .int .i64 x.b0, .int .i64 x.b1, .int .i64 0, .int .i64 0, .int .i64 x.d0, .int .i64 x.d1] 30), .blk g (.cells #[.int .i64 100, .int .i64 100, .int .i64 x.b0, .int .i64 x.b1, .int .i64 0, .int .i64 0, .int .i64 x.d0, .int .i64 x.d1] 30), .blk chb (.cells #[.int .i64 1, .int .i64 1, .int .i64 0, .slice (some ⟨g, 0, none⟩) 1 1] 34)] X4 := by
    have hh := HO3.out.set 2 rfl (w' := X4) (by rw [hX4]; exact ((((((((Keep.refl _ _).setCell (.inl (by simp)) _).setCell (.inl (by simp)) _).setCell (.inl (by simp)) _).setCell (.inl (by simp)) _).setCell (.inl (by simp)) _).setCell (.inl (by simp)) _).setCell (.inl (by simp)) _).setCell (.inl (by simp)) _) (by rw [hX4]; exact heap_set (heap_set (heap_set (heap_set (heap_set (heap_set (heap_set (heap_set (HO3.out.heap 2 rfl) 0 _) 1 _) 2 _) 3 _) 4 _) 5 _) 6 _) 7 _)
    exact hh
  have O5 := O4.alloc (.cells #[.int .i64 0] 3)
  obtain ⟨nb, hnb⟩ : ∃ b, b = X4.heap.size := ⟨_, rfl⟩
  obtain ⟨X5, hX5⟩ : ∃ Y, Y = X4.alloc (.cells #[.int .i64 0] 3) := ⟨_, rfl⟩
  rw [← hX5, ← hnb] at O5
  have g5 := O5.heap 2 rfl
  have n5 := O5.heap 4 rfl
  have hrc : Rd X5 8 (some ⟨g, 0, none⟩) 1 (cels [safeC x]) := ⟨rfl, fun _ => ⟨g, 0, rfl, heap_lt g5, fun j u hu => by
    rw [Nat.zero_add]
    exact (cell_of_heap g5 j).trans (by rw [← hu]; simp [cels, cel, safeC])⟩⟩
  have hrn : Rd X5 1 (some ⟨nb, 0, none⟩) 1 (ints [0]) := ⟨rfl, fun _ => ⟨nb, 0, rfl, heap_lt n5, fun j u hu => by
    rw [Nat.zero_add]
    exact (cell_of_heap n5 j).trans (by rw [← hu]; simp [ints])⟩⟩
  have kd := District_any 1 1 0 (some ⟨g, 0, none⟩) 1 [safeC x] (some ⟨nb, 0, none⟩) 1 [0] X5 hrc (by simp) hrn (by simp)
  unfold DistPost at kd
  obtain ⟨hd1, hd2⟩ := safe_dist HQ.out.2.1
  rw [hd1, hd2] at kd
  obtain ⟨lo, hlo⟩ : ∃ v, v = x.b0 + 50 * x.d0 := ⟨_, rfl⟩
  obtain ⟨hi, hhi⟩ : ∃ v, v = x.b1 + 50 * x.d1 := ⟨_, rfl⟩
  simp only [← hlo, ← hhi] at kd
  have KD : Hid (Calls Tryd.prog 7 #[.agg #[.int .i64 1, .int .i64 1, .int .i64 0, .slice (some ⟨g, 0, none⟩) 1 1], .slice (some ⟨nb, 0, none⟩) 1 1] X5 fun e w' => e = .returned (.tuple #[.agg #[.int .i64 lo, .int .i64 hi], .int .i64 0]) ∧ Below X5.heap.size X5 w') := Lib.hid kd
  have HO5 := Lib.hid O5
  have HE5 := Lib.hid (And.intro hX5 hnb)
  have HL := Lib.hid (And.intro hlo hhi)
  have h_ := O4.heap 3 rfl
  clear y0 y1 y2 y3 zh
  have y0 := (cell_of_heap h_ 0).trans rfl
  have y1 := (cell_of_heap h_ 1).trans rfl
  have y2 := (cell_of_heap h_ 2).trans rfl
  have y3 := (cell_of_heap h_ 3).trans rfl
  have zh := heap_lt h_
  clear O4 O5 hX4 hX5 hnb g5 n5 hrc hrn kd hd1 hd2 hlo hhi h_ q0 q1 q2 q3 q4 q5 q6 q7 r0 r1 r2 r3 r4 r5 r6 r7 f0 f1 f2 f3 f4 f5 f6 f7 zs zg
  go_upto_region 10 with (go_at_call 7; rw [← HE5.out.1, ← HE5.out.2]; refine KD.out.mono ?_; rintro e w6 ⟨rfl, b6⟩; have H6 := Lib.hid b6; clear b6 y0 y1 y2 y3 zh)
  obtain ⟨spb, hspb⟩ : ∃ b, b = w6.heap.size := ⟨_, rfl⟩
  obtain ⟨X6, hX6⟩ : ∃ Y, Y = w6.alloc (.cells #[.int .i64 lo, .int .i64 hi] 28) := ⟨_, rfl⟩
  obtain ⟨h, hh⟩ : ∃ h : ShC, h = ⟨sb, At, ct, Aw, cw, Ai, ci, s⟩ := ⟨_, rfl⟩
  have O6 : Own w2.heap.size w2 [.blk h.sb (.cells (shpV h.At h.ct h.Aw h.cw h.Ai h.ci h.s) 25), .blk cb (.cells (celA (safeC x)) 30), .blk spb (.cells #[.int .i64 lo, .int .i64 hi] 28)] X6 := by
    have a1 := (HO5.out.below H6.out).alloc (.cells #[.int .i64 lo, .int .i64 hi] 28)
    rw [hX6, hspb, hh]
    exact a1.one3 (a := 0) (b := 1) (c := 5) rfl rfl rfl (by decide)
  rw [← hX6, ← hspb]
  have ok : shipE h.s = 0 := by rw [hh]; exact HQ.out.1
  have R0 : ShR h.At h.Aw h.Ai h.s w2 := by rw [hh]; exact HQ.out.2.2.1
  have eb : sb = h.sb := by rw [hh]
  have HF := Lib.hid (And.intro O6 (And.intro ok (And.intro HQ.out.2.1 (And.intro R0 (And.intro HQ.out.2.2.2.1 HQ.out.2.2.2.2)))))
  subst eb
  clear O6 ok R0 hX6 hspb hh HQ HO1 HO2 HO3 HO5
  have hwr : m = m := rfl
  go_upto_block 0 with fail
  go_cut [13] from 66 to 104 (fun cv wy => ∃ cl : Int, cv = .int .i64 cl ∧ (cl = 7 ∨ ((1 ≤ cl ∧ cl ≤ 6) ∧ goodC m cl = true)) ∧ Below X6.heap.size X6 wy)
  case first =>
    go_wp2_with fail
    go_loopw [13, 14] (fun cv i wy => ∃ cl k : Int, cv = .int .i64 cl ∧ i = .int .i64 k ∧ (0 ≤ k ∧ k ≤ 6) ∧ (cl = 7 ∨ ((1 ≤ cl ∧ cl ≤ 6) ∧ goodC m cl = true)) ∧ Below X6.heap.size X6 wy) (fun _ i _ => (RowKit.intOf i).toNat)
    case atStart => exact ⟨7, 6, rfl, rfl, by omega, .inl rfl, Below.refl _ _⟩
    case round =>
      obtain ⟨cl, k, rfl, rfl, hk, hcl, bb⟩ := hrel
      by_cases hlt : 1 ≤ k
      · have O7 := HF.out.1.below bb
        refine safe_k (h := h) (m := m) (cl := cl) (k := k) ⟨⟨O7.heap 0 rfl, (HF.out.2.2.2.1.below O7.bel).rt, (HF.out.2.2.2.1.below O7.bel).rw_, (HF.out.2.2.2.1.below O7.bel).ri⟩, HF.out.2.2.2.2.1.below O7.bel⟩ HF.out.2.1 hm ⟨hlt, hk.2⟩ ?_
        intros
        rename_i c2 w' hr
        refine ⟨?_, by simp [RowKit.intOf]; omega⟩
        repeat apply Exists.intro
        refine ⟨?_, rfl⟩
        refine ⟨c2, k - 1, rfl, rfl, by omega, ?_, bb.trans (hr.2.mono bb.size)⟩
        rcases hr.1 with rfl | ⟨rfl, hg⟩
        · exact hcl
        · exact .inr ⟨⟨hlt, hk.2⟩, hg⟩
      · have HB := Lib.hid (And.intro hcl bb)
        clear bb hcl
        go_wp2_with fail
        go_meet
        exact ⟨cl, rfl, HB.out.1, HB.out.2⟩
  case rest =>
    obtain ⟨cl, rfl, hcl, b7⟩ := hcut
    obtain ⟨w7, rfl, b7⟩ : ∃ wz, wz = _ ∧ Below X6.heap.size X6 wz := ⟨_, rfl, b7⟩
    have HB := Lib.hid (And.intro hcl b7)
    have KW := Lib.hid awake_any
    clear hcl b7
    go_upto_if 106 with fail
    go_cut [6] (fun rv wx => wx = w7 ∧ ((1 ≤ cl ∧ cl ≤ 6) ∧ goodC m cl = true))
    case first =>
      rcases HB.out.1 with h7 | hg
      · subst h7
        go_wp2_with (go_at_call 10; refine (KW.out _).mono ?_; rintro e w8 ⟨rfl, b8⟩; have H8 := Lib.hid b8; clear b8)
        go_ret
        have b9 := HF.out.1.bel.trans ((HB.out.2.trans (H8.out.mono HB.out.2.size)).mono HF.out.1.lo)
        exact ⟨rfl, HF.out.2.2.2.2.2.trans (b9.mono HF.out.2.2.2.2.2.size)⟩
      · have h6 : ¬ 6 < cl := by omega
        go_wp2_with fail
        go_meet
        exact ⟨rfl, hg⟩
    case rest =>
      obtain ⟨hw, hc, hg⟩ := hcut
      have hw2 := hw.symm
      subst hw2
      apply_assumption
      refine safe_t (h := h) (cl := cl) (lo := lo) (hi := hi) HF.out.2.1 HF.out.2.2.1 HF.out.2.2.2.1 HF.out.2.2.2.2.1 HF.out.2.2.2.2.2 hm HL.out.1 HL.out.2 (HF.out.1.below HB.out.2) hc hg ?_
      intro _ _ _ h
      exact h
end Go.Proofs.YtalcinepeofmcaaDoor
