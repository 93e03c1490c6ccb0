/- ice: aged (printed by wip/tools/iceo.py) -/
import Derived.Test.YtfmhlnfcbbpfeaaRCp18
import Derived.Test.YtfmhlnfcbbpfeaaRCp0
import Derived.Laws.IdiomCopy
import Derived.Laws.MakeOwn
import Derived.Laws.OwnMore
set_option linter.unusedVariables false
namespace Go.Proofs.Ytfmhlnfcbbpfeaa
open Go Go.RowKit Go.Lib Sp
set_option linter.unusedVariables false
set_option linter.unusedSimpArgs false

def ageLo (x : Cel) (d : Ice) (h : Int) (k : Nat) : Int := max (celLoN x k - chg (iceN d k) h) 0
def ageHi (x : Cel) (u : Ice) (h : Int) (k : Nat) : Int := min (celHiN x k + chg (iceN u k) h) (mostN k)
theorem most_indexK (k : Nat) (hk : k < 4) (w : World) : (Instr.index 174 (.agg #[.int .i64 100, .int .i64 400, .int .i64 100, .int .i64 3]) (.int .i64 k)).run Try.prog w = .ok (.int .i64 (mostN k)) w := by
  rcases (by omega : k = 0 ∨ k = 1 ∨ k = 2 ∨ k = 3) with rfl | rfl | rfl | rfl
  · exact (most_index w).1.1
  · exact (most_index w).1.2
  · exact (most_index w).2.1
  · exact (most_index w).2.2

set_option linter.unusedVariables false
def AgV (W0 : World) (rb sb db hb ub k : Nat) (lo hi dk uk h c1 c2 z1 z2 mk : Int) : Nat → Value → Prop
  | 0, v => v = .int .i64 k
  | 1, v => v = .pointer (some ⟨sb, k * 2, none⟩)
  | 2, v => v = .pointer (some ⟨sb, k * 2, none⟩)
  | 3, v => v = .int .i64 lo
  | 4, v => v = .int .i64 k
  | 5, v => v = .pointer (some ⟨db, k, none⟩)
  | 6, v => v = .int .i64 dk
  | 7, v => v = .int .i64 h
  | 8, v => v = .int .i64 c1
  | 9, v => v = .int .i64 (lo - c1)
  | 10, v => v = .int .i64 z1
  | 11, v => v = .int .i64 k
  | 12, v => v = .pointer (some ⟨sb, k * 2, none⟩)
  | 13, v => v = .pointer (some ⟨sb, k * 2 + 1, none⟩)
  | 14, v => v = .int .i64 hi
  | 15, v => v = .int .i64 k
  | 16, v => v = .pointer (some ⟨ub, k, none⟩)
  | 17, v => v = .int .i64 uk
  | 18, v => v = .int .i64 h
  | 19, v => v = .int .i64 c2
  | 20, v => v = .int .i64 (hi + c2)
  | 21, v => v = .agg #[.int .i64 100, .int .i64 400, .int .i64 100, .int .i64 3]
  | 22, v => v = .int .i64 k
  | 23, v => v = .int .i64 mk
  | 24, v => v = .int .i64 z2
  | 25, v => v = .agg #[.int .i64 z1, .int .i64 z2]
  | _, _ => True
def AgW (W0 : World) (rb sb db hb ub k : Nat) (lo hi dk uk h c1 c2 z1 z2 mk : Int) (l : Nat → Bool) (w : World) : Prop := Keep [rb] W0 w ∧ w.heap[rb]? = some (.cells (if l 26 then #[.int .i64 z1, .int .i64 z2] else #[.int .i64 0, .int .i64 0]) 42 (0, 0))

set_option maxRecDepth 100000 in
set_option maxHeartbeats 2000000 in
theorem aged1_ok (x : Cel) (u d : Ice) (h : Int) (sb db hb ub : Nat) (k : Nat) (hk : k < 4) (hr : rtOk u d) (hx : celOk x = true) (hh : 0 ≤ h ∧ h ≤ 10000) (w : World)
    (gs : w.heap[sb]? = some (.cells (celA x) 188 (0, 0))) (gd : w.heap[db]? = some (.cells (ic4 d) 174 (0, 0))) (gh : w.heap[hb]? = some (.cells #[.int .i64 h] 3 (0, 0))) (gu : w.heap[ub]? = some (.cells (ic4 u) 174 (0, 0))) :
    Calls Try.prog 145 #[.int .i64 k, .pointer (some ⟨sb, 0, none⟩), .pointer (some ⟨db, 0, none⟩), .pointer (some ⟨hb, 0, none⟩), .pointer (some ⟨ub, 0, none⟩)] w fun e w' => e = .returned (.agg #[.int .i64 (ageLo x d h k), .int .i64 (ageHi x u h k)]) ∧ Below w.heap.size w w' := by
  obtain ⟨W, hW⟩ : ∃ W, W = w.alloc (.cells #[.int .i64 0, .int .i64 0] 42) := ⟨_, rfl⟩
  obtain ⟨rb, hrb⟩ : ∃ b, b = w.heap.size := ⟨_, rfl⟩
  have hrh : W.heap[rb]? = some (.cells #[.int .i64 0, .int .i64 0] 42 (0, 0)) := by rw [hW, hrb]; exact heap_alloc_new _ _
  have bW : Below w.heap.size w W := by rw [hW]; exact (Below.refl _ _).alloc (Nat.le_refl _) _
  have hrw : w.heap.size ≤ rb := by omega
  obtain ⟨lo, hi, dk, uk, e1, e2, e3, e4, c1, c2, c3, c4, c5⟩ : ∃ lo hi dk uk : Int, lo = celLoN x k ∧ hi = celHiN x k ∧ dk = iceN d k ∧ uk = iceN u k ∧ W.cell? ⟨sb, k * 2, none⟩ = some (.int .i64 lo) ∧ W.cell? ⟨db, k, none⟩ = some (.int .i64 dk) ∧ W.cell? ⟨hb, 0, none⟩ = some (.int .i64 h) ∧ W.cell? ⟨sb, k * 2 + 1, none⟩ = some (.int .i64 hi) ∧ W.cell? ⟨ub, k, none⟩ = some (.int .i64 uk) := by
    have gs' := (bW.block _ (heap_lt gs)).trans gs
    have gd' := (bW.block _ (heap_lt gd)).trans gd
    have gh' := (bW.block _ (heap_lt gh)).trans gh
    have gu' := (bW.block _ (heap_lt gu)).trans gu
    rcases (by omega : k = 0 ∨ k = 1 ∨ k = 2 ∨ k = 3) with rfl | rfl | rfl | rfl
    · exact ⟨_, _, _, _, rfl, rfl, rfl, rfl, (cell_of_heap gs' 0).trans rfl, (cell_of_heap gd' 0).trans rfl, (cell_of_heap gh' 0).trans rfl, (cell_of_heap gs' 1).trans rfl, (cell_of_heap gu' 0).trans rfl⟩
    · exact ⟨_, _, _, _, rfl, rfl, rfl, rfl, (cell_of_heap gs' 2).trans rfl, (cell_of_heap gd' 1).trans rfl, (cell_of_heap gh' 0).trans rfl, (cell_of_heap gs' 3).trans rfl, (cell_of_heap gu' 1).trans rfl⟩
    · exact ⟨_, _, _, _, rfl, rfl, rfl, rfl, (cell_of_heap gs' 4).trans rfl, (cell_of_heap gd' 2).trans rfl, (cell_of_heap gh' 0).trans rfl, (cell_of_heap gs' 5).trans rfl, (cell_of_heap gu' 2).trans rfl⟩
    · exact ⟨_, _, _, _, rfl, rfl, rfl, rfl, (cell_of_heap gs' 6).trans rfl, (cell_of_heap gd' 3).trans rfl, (cell_of_heap gh' 0).trans rfl, (cell_of_heap gs' 7).trans rfl, (cell_of_heap gu' 3).trans rfl⟩
  have hbd : 0 ≤ lo ∧ lo ≤ hi ∧ hi ≤ mostN k ∧ mostN k ≤ 400 := by
    simp only [celOk, spanOk, within, Bool.and_eq_true, decide_eq_true_eq] at hx
    rcases (by omega : k = 0 ∨ k = 1 ∨ k = 2 ∨ k = 3) with rfl | rfl | rfl | rfl <;> simp only [celLoN, celHiN, mostN] at * <;> omega
  obtain ⟨l1, l2, l3, l4⟩ := hbd
  obtain ⟨r1, r2, r3, r4⟩ := hr k hk
  have hc1 := chg_bd (r := iceN d k) ⟨r3, r4⟩ hh
  have hc2 := chg_bd (r := iceN u k) ⟨r1, r2⟩ hh
  rw [← e3] at hc1 r3 r4
  rw [← e4] at hc2 r1 r2
  obtain ⟨v1, hv1⟩ : ∃ v, v = chg dk h := ⟨_, rfl⟩
  obtain ⟨v2, hv2⟩ : ∃ v, v = chg uk h := ⟨_, rfl⟩
  have k1 : ∀ wx, Calls Try.prog 146 #[.int .i64 dk, .int .i64 h] wx fun e w' => e = .returned (.int .i64 v1) ∧ wx = w' := fun wx => by rw [hv1]; exact change_any dk h ⟨r3, r4⟩ hh wx
  have k2 : ∀ wx, Calls Try.prog 146 #[.int .i64 uk, .int .i64 h] wx fun e w' => e = .returned (.int .i64 v2) ∧ wx = w' := fun wx => by rw [hv2]; exact change_any uk h ⟨r1, r2⟩ hh wx
  rw [← hv1] at hc1
  rw [← hv2] at hc2
  obtain ⟨p1, p2, _⟩ := hc1
  obtain ⟨p3, p4, _⟩ := hc2
  obtain ⟨mk, hmk⟩ : ∃ mk, mk = mostN k := ⟨_, rfl⟩
  rw [← hmk] at l3 l4
  obtain ⟨z1, hz1⟩ : ∃ z, (if lo - v1 < 0 then 0 else lo - v1) = z := ⟨_, rfl⟩
  obtain ⟨z2, hz2⟩ : ∃ z, (if mk < hi + v2 then mk else hi + v2) = z := ⟨_, rfl⟩
  have a1 : ageLo x d h k = z1 := by
    unfold ageLo; rw [← e1, ← e3, ← hv1, ← hz1]; split <;> omega
  have a2 : ageHi x u h k = z2 := by
    unfold ageHi; rw [← e2, ← e4, ← hv2, ← hmk, ← hz2]; split <;> omega
  rw [a1, a2]
  have hxx := fun wx => most_indexK k hk wx
  rw [← hmk] at hxx
  have HX := Lib.hid hxx
  have HZ := Lib.hid (And.intro hz1 hz2)
  have HK1 := Lib.hid k1
  have HK2 := Lib.hid k2
  have HC := Lib.hid (And.intro c1 (And.intro c2 (And.intro c3 (And.intro c4 c5))))
  have hne : rb ≠ sb ∧ rb ≠ db ∧ rb ≠ hb ∧ rb ≠ ub := by have := heap_lt gs; have := heap_lt gd; have := heap_lt gh; have := heap_lt gu; omega
  have HN := Lib.hid (And.intro (Ne.symm hne.1) (And.intro (Ne.symm hne.2.1) (And.intro (Ne.symm hne.2.2.1) (Ne.symm hne.2.2.2))))
  have zs : sb < W.heap.size := Nat.lt_of_lt_of_le (heap_lt gs) bW.size
  have HR := Lib.hid (And.intro hrh bW)
  clear hne hxx hz1 hz2 k1 k2 c1 c2 c3 c4 c5 a1 a2 hmk hv1 hv2 e1 e2 e3 e4 gs gd gh gu hrh bW hx hr hh zs
  go_enter Try.func145, Try.ntmps145
  go_upto_region 1 with fail
  rw [← hW, ← hrb]
  clear hW hrb
  refine wp_region_steps (σ := Unit) (by kernel_rfl) (by kernel_rfl) (fun _ jx vx _ => AgV W rb sb db hb ub k lo hi dk uk h v1 v2 z1 z2 mk jx vx) (fun _ ly wx => AgW W rb sb db hb ub k lo hi dk uk h v1 v2 z1 z2 mk ly wx) () ?_ ?_ ?_
  · exact ⟨(Keep.refl _ _).drew, by rw [if_neg (by simp)]; exact HR.out.1⟩
  · simp only [AllFrom, Nat.zero_add, Nat.reduceAdd]
    refine ⟨?_, ?_, ?_, ?_, ?_, ?_, ?_, ?_, ?_, ?_, ?_, ?_, ?_, ?_, ?_, ?_, ?_, ?_, ?_, ?_, ?_, ?_, ?_, ?_, ?_, ?_, ?_, trivial⟩
    · refine step_pure fun sg ly a wr hl hd hW hF => ?_
      have et0 := hF.old 0 (by kernel_rfl)
      simp [Act.eval] at et0
      exact ⟨by simpa [AgW, upd] using hW, .int .i64 k, by go_simp, rfl⟩
    · refine step_pure fun sg ly a wr hl hd hW hF => ?_
      simp [Region.binds] at hd
      have et1 := hF.old 1 (by kernel_rfl)
      simp [Act.eval] at et1
      have et7 := hF.new 0 7 (by simp [hd]) rfl
      simp [AgV, Act.eval] at et7
      have b1 : (0 : Int) ≤ (k : Int) := by omega
      have b2 : (k : Int) < 4 := by omega
      exact ⟨by simpa [AgW, upd] using hW, .pointer (some ⟨sb, k * 2, none⟩), by go_simp, rfl⟩
    · refine step_pure fun sg ly a wr hl hd hW hF => ?_
      simp [Region.binds] at hd
      have et8 := hF.new 1 8 (by simp [hd]) rfl
      simp [AgV, Act.eval] at et8
      exact ⟨by simpa [AgW, upd] using hW, .pointer (some ⟨sb, k * 2, none⟩), by go_simp, rfl⟩
    · refine step_pure fun sg ly a wr hl hd hW hF => ?_
      simp [Region.binds] at hd
      have et9 := hF.new 2 9 (by simp [hd]) rfl
      simp [AgV, Act.eval] at et9
      have c0 := hW.1.cell HC.out.1 (by simpa using HN.out.1)
      exact ⟨by simpa [AgW, upd] using hW, _, by go_simp, rfl⟩
    · refine step_pure fun sg ly a wr hl hd hW hF => ?_
      have et0 := hF.old 0 (by kernel_rfl)
      simp [Act.eval] at et0
      exact ⟨by simpa [AgW, upd] using hW, .int .i64 k, by go_simp, rfl⟩
    · refine step_pure fun sg ly a wr hl hd hW hF => ?_
      simp [Region.binds] at hd
      have et2 := hF.old 2 (by kernel_rfl)
      simp [Act.eval] at et2
      have et11 := hF.new 4 11 (by simp [hd]) rfl
      simp [AgV, Act.eval] at et11
      have b1 : (0 : Int) ≤ (k : Int) := by omega
      have b2 : (k : Int) < 4 := by omega
      exact ⟨by simpa [AgW, upd] using hW, .pointer (some ⟨db, k, none⟩), by go_simp, rfl⟩
    · refine step_pure fun sg ly a wr hl hd hW hF => ?_
      simp [Region.binds] at hd
      have et12 := hF.new 5 12 (by simp [hd]) rfl
      simp [AgV, Act.eval] at et12
      have c0 := hW.1.cell HC.out.2.1 (by simpa using HN.out.2.1)
      exact ⟨by simpa [AgW, upd] using hW, _, by go_simp, rfl⟩
    · refine step_pure fun sg ly a wr hl hd hW hF => ?_
      have et3 := hF.old 3 (by kernel_rfl)
      simp [Act.eval] at et3
      have c0 := hW.1.cell HC.out.2.2.1 (by simpa using HN.out.2.2.1)
      exact ⟨by simpa [AgW, upd] using hW, _, by go_simp, rfl⟩
    · refine step_call fun sg ly a wr hl hd hW hF => ?_
      simp [Region.binds] at hd
      have et13 := hF.new 6 13 (by simp [hd]) rfl
      simp [AgV, Act.eval] at et13
      have et14 := hF.new 7 14 (by simp [hd]) rfl
      simp [AgV, Act.eval] at et14
      refine ⟨146, #[.int .i64 dk, .int .i64 h], by go_simp, ?_⟩
      refine (HK1.out wr).mono ?_
      rintro e w2 ⟨rfl, rfl⟩
      exact ⟨_, (), rfl, by simpa [AgW, upd] using hW, rfl, fun _ _ _ h => h⟩
    · refine step_pure fun sg ly a wr hl hd hW hF => ?_
      simp [Region.binds] at hd
      have et10 := hF.new 3 10 (by simp [hd]) rfl
      simp [AgV, Act.eval] at et10
      have et15 := hF.new 8 15 (by simp [hd]) rfl
      simp [AgV, Act.eval] at et15
      have ew := IntWalk.i64_in (lo - v1) (by omega)
      exact ⟨by simpa [AgW, upd] using hW, .int .i64 (lo - v1), by go_simp, rfl⟩
    · refine step_pure fun sg ly a wr hl hd hW hF => ?_
      simp [Region.binds] at hd
      have et16 := hF.new 9 16 (by simp [hd]) rfl
      simp [AgV, Act.eval] at et16
      have hz := HZ.out.1
      exact ⟨by simpa [AgW, upd] using hW, .int .i64 z1, by go_simp, rfl⟩
    · refine step_pure fun sg ly a wr hl hd hW hF => ?_
      have et0 := hF.old 0 (by kernel_rfl)
      simp [Act.eval] at et0
      exact ⟨by simpa [AgW, upd] using hW, .int .i64 k, by go_simp, rfl⟩
    · refine step_pure fun sg ly a wr hl hd hW hF => ?_
      simp [Region.binds] at hd
      have et1 := hF.old 1 (by kernel_rfl)
      simp [Act.eval] at et1
      have et18 := hF.new 11 18 (by simp [hd]) rfl
      simp [AgV, Act.eval] at et18
      have b1 : (0 : Int) ≤ (k : Int) := by omega
      have b2 : (k : Int) < 4 := by omega
      exact ⟨by simpa [AgW, upd] using hW, .pointer (some ⟨sb, k * 2, none⟩), by go_simp, rfl⟩
    · refine step_pure fun sg ly a wr hl hd hW hF => ?_
      simp [Region.binds] at hd
      have et19 := hF.new 12 19 (by simp [hd]) rfl
      simp [AgV, Act.eval] at et19
      exact ⟨by simpa [AgW, upd] using hW, .pointer (some ⟨sb, k * 2 + 1, none⟩), by go_simp, rfl⟩
    · refine step_pure fun sg ly a wr hl hd hW hF => ?_
      simp [Region.binds] at hd
      have et20 := hF.new 13 20 (by simp [hd]) rfl
      simp [AgV, Act.eval] at et20
      have c0 := hW.1.cell HC.out.2.2.2.1 (by simpa using HN.out.1)
      exact ⟨by simpa [AgW, upd] using hW, _, by go_simp, rfl⟩
    · refine step_pure fun sg ly a wr hl hd hW hF => ?_
      have et0 := hF.old 0 (by kernel_rfl)
      simp [Act.eval] at et0
      exact ⟨by simpa [AgW, upd] using hW, .int .i64 k, by go_simp, rfl⟩
    · refine step_pure fun sg ly a wr hl hd hW hF => ?_
      simp [Region.binds] at hd
      have et4 := hF.old 4 (by kernel_rfl)
      simp [Act.eval] at et4
      have et22 := hF.new 15 22 (by simp [hd]) rfl
      simp [AgV, Act.eval] at et22
      have b1 : (0 : Int) ≤ (k : Int) := by omega
      have b2 : (k : Int) < 4 := by omega
      exact ⟨by simpa [AgW, upd] using hW, .pointer (some ⟨ub, k, none⟩), by go_simp, rfl⟩
    · refine step_pure fun sg ly a wr hl hd hW hF => ?_
      simp [Region.binds] at hd
      have et23 := hF.new 16 23 (by simp [hd]) rfl
      simp [AgV, Act.eval] at et23
      have c0 := hW.1.cell HC.out.2.2.2.2 (by simpa using HN.out.2.2.2)
      exact ⟨by simpa [AgW, upd] using hW, _, by go_simp, rfl⟩
    · refine step_pure fun sg ly a wr hl hd hW hF => ?_
      have et3 := hF.old 3 (by kernel_rfl)
      simp [Act.eval] at et3
      have c0 := hW.1.cell HC.out.2.2.1 (by simpa using HN.out.2.2.1)
      exact ⟨by simpa [AgW, upd] using hW, _, by go_simp, rfl⟩
    · refine step_call fun sg ly a wr hl hd hW hF => ?_
      simp [Region.binds] at hd
      have et24 := hF.new 17 24 (by simp [hd]) rfl
      simp [AgV, Act.eval] at et24
      have et25 := hF.new 18 25 (by simp [hd]) rfl
      simp [AgV, Act.eval] at et25
      refine ⟨146, #[.int .i64 uk, .int .i64 h], by go_simp, ?_⟩
      refine (HK2.out wr).mono ?_
      rintro e w2 ⟨rfl, rfl⟩
      exact ⟨_, (), rfl, by simpa [AgW, upd] using hW, rfl, fun _ _ _ h => h⟩
    · refine step_pure fun sg ly a wr hl hd hW hF => ?_
      simp [Region.binds] at hd
      have et21 := hF.new 14 21 (by simp [hd]) rfl
      simp [AgV, Act.eval] at et21
      have et26 := hF.new 19 26 (by simp [hd]) rfl
      simp [AgV, Act.eval] at et26
      have ew := IntWalk.i64_in (hi + v2) (by omega)
      exact ⟨by simpa [AgW, upd] using hW, .int .i64 (hi + v2), by go_simp, rfl⟩
    · refine step_call fun sg ly a wr hl hd hW hF => ?_
      refine ⟨108, #[], by go_simp, ?_⟩
      refine (most_any wr).mono ?_
      rintro e w2 ⟨rfl, b2⟩
      exact ⟨_, (), rfl, ⟨hW.1.trans (Keep.of_below (S := []) b2) (by simp), by simpa [upd] using (b2.block _ (heap_lt hW.2)).trans hW.2⟩, rfl, fun _ _ _ h => h⟩
    · refine step_pure fun sg ly a wr hl hd hW hF => ?_
      have et0 := hF.old 0 (by kernel_rfl)
      simp [Act.eval] at et0
      exact ⟨by simpa [AgW, upd] using hW, .int .i64 k, by go_simp, rfl⟩
    · refine step_pure fun sg ly a wr hl hd hW hF => ?_
      simp [Region.binds] at hd
      have et28 := hF.new 21 28 (by simp [hd]) rfl
      simp [AgV, Act.eval] at et28
      have et29 := hF.new 22 29 (by simp [hd]) rfl
      simp [AgV, Act.eval] at et29
      have hx := HX.out wr
      exact ⟨by simpa [AgW, upd] using hW, .int .i64 mk, by go_simp, rfl⟩
    · refine step_pure fun sg ly a wr hl hd hW hF => ?_
      simp [Region.binds] at hd
      have et27 := hF.new 20 27 (by simp [hd]) rfl
      simp [AgV, Act.eval] at et27
      have et30 := hF.new 23 30 (by simp [hd]) rfl
      simp [AgV, Act.eval] at et30
      have hz := HZ.out.2
      exact ⟨by simpa [AgW, upd] using hW, .int .i64 z2, by go_simp, rfl⟩
    · refine step_pure fun sg ly a wr hl hd hW hF => ?_
      simp [Region.binds] at hd
      have et17 := hF.new 10 17 (by simp [hd]) rfl
      simp [AgV, Act.eval] at et17
      have et31 := hF.new 24 31 (by simp [hd]) rfl
      simp [AgV, Act.eval] at et31
      exact ⟨by simpa [AgW, upd] using hW, .agg #[.int .i64 z1, .int .i64 z2], by go_simp, rfl⟩
    · refine step_store rfl fun sg ly a wr hl hd hW hF => ?_
      simp [Region.binds] at hd
      have et6 := hF.old 6 (by kernel_rfl)
      simp [Act.eval] at et6
      have et32 := hF.new 25 32 (by simp [hd]) rfl
      simp [AgV, Act.eval] at et32
      have hh := hW.2
      rw [if_neg (by simp [hl])] at hh
      have c0 := (cell_of_heap hh 0).trans rfl
      have c1 := (cell_of_heap hh 1).trans rfl
      have f0 := frozen_of_heap hh 0
      have f1 := frozen_of_heap hh 1
      have zq := heap_lt hh
      refine ⟨(wr.setCell ⟨rb, 0, none⟩ (.int .i64 z1)).setCell ⟨rb, 1, none⟩ (.int .i64 z2), (), .skip, by go_simp, .inl rfl, ⟨(hW.1.setCell (.inl (by simp)) _).setCell (.inl (by simp)) _, ?_⟩, fun _ _ _ h => h⟩
      rw [if_pos (by simp [upd])]; exact heap_set (heap_set hh 0 _) 1 _
  intro _ a w5 hW hF
  obtain ⟨f, hf, rfl⟩ := hF.lit
  obtain ⟨kp5, hh5⟩ := hW
  simp only [List.length_cons, List.length_nil, Nat.reduceAdd, Nat.reduceLT, decide_true, if_true] at hh5
  have H5 := Lib.hid (And.intro hh5 (HR.out.2.trans (kp5.below HR.out.2.size (by simpa using hrw))))
  clear hf hF kp5 hh5
  simp only [List.filterMap, List.foldl, List.setIfInBounds_toArray, List.set_cons_succ, List.set_cons_zero]
  go_wp2_with fail
  exact bodyPost_ret (span_results (r := 6) rfl H5.out.1 _ rfl) rfl ⟨rfl, H5.out.2⟩

def eachAgA (g : Nat → Int × Int) : Nat → Array Value
  | 0 => #[.int .i64 0, .int .i64 0, .int .i64 0, .int .i64 0, .int .i64 0, .int .i64 0, .int .i64 0, .int .i64 0]
  | 1 => #[.int .i64 (g 0).1, .int .i64 (g 0).2, .int .i64 0, .int .i64 0, .int .i64 0, .int .i64 0, .int .i64 0, .int .i64 0]
  | 2 => #[.int .i64 (g 0).1, .int .i64 (g 0).2, .int .i64 (g 1).1, .int .i64 (g 1).2, .int .i64 0, .int .i64 0, .int .i64 0, .int .i64 0]
  | 3 => #[.int .i64 (g 0).1, .int .i64 (g 0).2, .int .i64 (g 1).1, .int .i64 (g 1).2, .int .i64 (g 2).1, .int .i64 (g 2).2, .int .i64 0, .int .i64 0]
  | _ => #[.int .i64 (g 0).1, .int .i64 (g 0).2, .int .i64 (g 1).1, .int .i64 (g 1).2, .int .i64 (g 2).1, .int .i64 (g 2).2, .int .i64 (g 3).1, .int .i64 (g 3).2]
set_option maxRecDepth 100000 in
set_option maxHeartbeats 2000000 in
theorem eachAg (b1 b2 b3 b4 : Nat) (g : Nat → Int × Int) (w : World) (hg : ∀ k : Nat, k < 4 → ∀ wx, Below w.heap.size w wx → Calls Try.prog 145 #[.int .i64 k, .pointer (some ⟨b1, 0, none⟩), .pointer (some ⟨b2, 0, none⟩), .pointer (some ⟨b3, 0, none⟩), .pointer (some ⟨b4, 0, none⟩)] wx fun e w' => e = .returned (.agg #[.int .i64 (g k).1, .int .i64 (g k).2]) ∧ Below wx.heap.size wx w') :
    Calls Try.prog 144 #[.func (.func 145) #[] #[.pointer (some ⟨b1, 0, none⟩), .pointer (some ⟨b2, 0, none⟩), .pointer (some ⟨b3, 0, none⟩), .pointer (some ⟨b4, 0, none⟩)]] w fun e w' => e = .returned (.agg #[.int .i64 (g 0).1, .int .i64 (g 0).2, .int .i64 (g 1).1, .int .i64 (g 1).2, .int .i64 (g 2).1, .int .i64 (g 2).2, .int .i64 (g 3).1, .int .i64 (g 3).2]) ∧ Below w.heap.size w w' := by
  obtain ⟨W, hW⟩ : ∃ W, W = (w.alloc (.cells #[.int .i64 0, .int .i64 0, .int .i64 0, .int .i64 0, .int .i64 0, .int .i64 0, .int .i64 0, .int .i64 0] 188)).alloc (.cells #[.int .i64 0, .int .i64 0, .int .i64 0, .int .i64 0, .int .i64 0, .int .i64 0, .int .i64 0, .int .i64 0] 188) := ⟨_, rfl⟩
  obtain ⟨rb, hrb⟩ : ∃ b, b = w.heap.size := ⟨_, rfl⟩
  obtain ⟨ob, hob⟩ : ∃ b, b = w.heap.size + 1 := ⟨_, rfl⟩
  have hrh : W.heap[rb]? = some (.cells #[.int .i64 0, .int .i64 0, .int .i64 0, .int .i64 0, .int .i64 0, .int .i64 0, .int .i64 0, .int .i64 0] 188 (0, 0)) := by rw [hW, hrb]; exact heap_alloc' (heap_alloc_new _ _) _
  have hoh : W.heap[ob]? = some (.cells #[.int .i64 0, .int .i64 0, .int .i64 0, .int .i64 0, .int .i64 0, .int .i64 0, .int .i64 0, .int .i64 0] 188 (0, 0)) := by
    rw [hW, hob]
    have := heap_alloc_new (w.alloc (.cells #[.int .i64 0, .int .i64 0, .int .i64 0, .int .i64 0, .int .i64 0, .int .i64 0, .int .i64 0, .int .i64 0] 188)) (.cells #[.int .i64 0, .int .i64 0, .int .i64 0, .int .i64 0, .int .i64 0, .int .i64 0, .int .i64 0, .int .i64 0] 188)
    rwa [World.size_alloc] at this
  have bW : Below w.heap.size w W := by rw [hW]; exact ((Below.refl _ _).alloc (Nat.le_refl _) _).alloc (by simp) _
  have hrw : w.heap.size ≤ rb := by omega
  have how : w.heap.size ≤ ob := by omega
  have hne : rb ≠ ob := by omega
  have HR := Lib.hid (And.intro hrh (And.intro hoh (And.intro bW (And.intro hne hg))))
  clear hrh hoh bW hne hg
  go_enter Try.func144, Try.ntmps144
  go_upto_region 2 with fail
  rw [← hW, ← hob, ← hrb]
  clear hW hob hrb
  go_wp2_with fail
  go_loopw [5] (fun i wr => ∃ k : Nat, k ≤ 4 ∧ i = .int .i64 k ∧ wr.heap[ob]? = some (.cells (eachAgA g k) 188 (0, 0)) ∧ Keep [ob] W wr) (fun i _ => 4 - (intOf i).toNat)
  case atStart => exact ⟨0, by omega, rfl, HR.out.2.1, Keep.refl _ _⟩
  case round =>
    obtain ⟨k, hk, rfl, hh, hK⟩ := hrel
    have bw : Below w.heap.size w wr := HR.out.2.2.1.trans (hK.below HR.out.2.2.1.size (by simpa using how))
    have HB := Lib.hid (And.intro hh (And.intro hK bw))
    clear hh hK bw
    rcases (by omega : k = 0 ∨ k = 1 ∨ k = 2 ∨ k = 3 ∨ k = 4) with rfl | rfl | rfl | rfl | rfl
    · have hc := HR.out.2.2.2.2 0 (by omega) wr HB.out.2.2
      obtain ⟨x, y, hxy⟩ : ∃ x y : Int, g 0 = (x, y) := ⟨_, _, rfl⟩
      rw [hxy] at hc
      have HC := Lib.hid (And.intro hc hxy)
      clear hc hxy
      go_wp2_with fail
      refine HC.out.1.mono ?_
      rintro e w2 ⟨rfl, b2⟩
      have hh2 : w2.heap[ob]? = some (.cells #[.int .i64 0, .int .i64 0, .int .i64 0, .int .i64 0, .int .i64 0, .int .i64 0, .int .i64 0, .int .i64 0] 188 (0, 0)) := (b2.block _ (heap_lt HB.out.1)).trans HB.out.1
      have c0 := (cell_of_heap hh2 0).trans rfl
      have c1 := (cell_of_heap hh2 1).trans rfl
      have f0 := frozen_of_heap hh2 0
      have f1 := frozen_of_heap hh2 1
      have zo := heap_lt hh2
      have hh3 : ((w2.setCell ⟨ob, 0, none⟩ (.int .i64 x)).setCell ⟨ob, 1, none⟩ (.int .i64 y)).heap[ob]? = some (.cells (eachAgA g 1) 188 (0, 0)) := by
        have := heap_set (heap_set hh2 0 (.int .i64 x)) 1 (.int .i64 y)
        rw [this]
        simp [eachAgA, HC.out.2]
      have hK3 : Keep [ob] W ((w2.setCell ⟨ob, 0, none⟩ (.int .i64 x)).setCell ⟨ob, 1, none⟩ (.int .i64 y)) := ((HB.out.2.1.trans (Keep.of_below (S := []) b2) (by simp)).setCell (.inl (by simp)) _).setCell (.inl (by simp)) _
      have H3 := Lib.hid (And.intro hh3 hK3)
      clear hh2 hh3 hK3 b2
      go_wp2_with fail
      go_roundw
      case measure => simp [intOf]
      case rel => exact ⟨1, by omega, rfl, H3.out.1, H3.out.2⟩
    · have hc := HR.out.2.2.2.2 1 (by omega) wr HB.out.2.2
      obtain ⟨x, y, hxy⟩ : ∃ x y : Int, g 1 = (x, y) := ⟨_, _, rfl⟩
      rw [hxy] at hc
      have HC := Lib.hid (And.intro hc hxy)
      clear hc hxy
      go_wp2_with fail
      refine HC.out.1.mono ?_
      rintro e w2 ⟨rfl, b2⟩
      have hh2 : w2.heap[ob]? = some (.cells #[.int .i64 (g 0).1, .int .i64 (g 0).2, .int .i64 0, .int .i64 0, .int .i64 0, .int .i64 0, .int .i64 0, .int .i64 0] 188 (0, 0)) := (b2.block _ (heap_lt HB.out.1)).trans HB.out.1
      have c0 := (cell_of_heap hh2 2).trans rfl
      have c1 := (cell_of_heap hh2 3).trans rfl
      have f0 := frozen_of_heap hh2 2
      have f1 := frozen_of_heap hh2 3
      have zo := heap_lt hh2
      have hh3 : ((w2.setCell ⟨ob, 2, none⟩ (.int .i64 x)).setCell ⟨ob, 3, none⟩ (.int .i64 y)).heap[ob]? = some (.cells (eachAgA g 2) 188 (0, 0)) := by
        have := heap_set (heap_set hh2 2 (.int .i64 x)) 3 (.int .i64 y)
        rw [this]
        simp [eachAgA, HC.out.2]
      have hK3 : Keep [ob] W ((w2.setCell ⟨ob, 2, none⟩ (.int .i64 x)).setCell ⟨ob, 3, none⟩ (.int .i64 y)) := ((HB.out.2.1.trans (Keep.of_below (S := []) b2) (by simp)).setCell (.inl (by simp)) _).setCell (.inl (by simp)) _
      have H3 := Lib.hid (And.intro hh3 hK3)
      clear hh2 hh3 hK3 b2
      go_wp2_with fail
      go_roundw
      case measure => simp [intOf]
      case rel => exact ⟨2, by omega, rfl, H3.out.1, H3.out.2⟩
    · have hc := HR.out.2.2.2.2 2 (by omega) wr HB.out.2.2
      obtain ⟨x, y, hxy⟩ : ∃ x y : Int, g 2 = (x, y) := ⟨_, _, rfl⟩
      rw [hxy] at hc
      have HC := Lib.hid (And.intro hc hxy)
      clear hc hxy
      go_wp2_with fail
      refine HC.out.1.mono ?_
      rintro e w2 ⟨rfl, b2⟩
      have hh2 : w2.heap[ob]? = some (.cells #[.int .i64 (g 0).1, .int .i64 (g 0).2, .int .i64 (g 1).1, .int .i64 (g 1).2, .int .i64 0, .int .i64 0, .int .i64 0, .int .i64 0] 188 (0, 0)) := (b2.block _ (heap_lt HB.out.1)).trans HB.out.1
      have c0 := (cell_of_heap hh2 4).trans rfl
      have c1 := (cell_of_heap hh2 5).trans rfl
      have f0 := frozen_of_heap hh2 4
      have f1 := frozen_of_heap hh2 5
      have zo := heap_lt hh2
      have hh3 : ((w2.setCell ⟨ob, 4, none⟩ (.int .i64 x)).setCell ⟨ob, 5, none⟩ (.int .i64 y)).heap[ob]? = some (.cells (eachAgA g 3) 188 (0, 0)) := by
        have := heap_set (heap_set hh2 4 (.int .i64 x)) 5 (.int .i64 y)
        rw [this]
        simp [eachAgA, HC.out.2]
      have hK3 : Keep [ob] W ((w2.setCell ⟨ob, 4, none⟩ (.int .i64 x)).setCell ⟨ob, 5, none⟩ (.int .i64 y)) := ((HB.out.2.1.trans (Keep.of_below (S := []) b2) (by simp)).setCell (.inl (by simp)) _).setCell (.inl (by simp)) _
      have H3 := Lib.hid (And.intro hh3 hK3)
      clear hh2 hh3 hK3 b2
      go_wp2_with fail
      go_roundw
      case measure => simp [intOf]
      case rel => exact ⟨3, by omega, rfl, H3.out.1, H3.out.2⟩
    · have hc := HR.out.2.2.2.2 3 (by omega) wr HB.out.2.2
      obtain ⟨x, y, hxy⟩ : ∃ x y : Int, g 3 = (x, y) := ⟨_, _, rfl⟩
      rw [hxy] at hc
      have HC := Lib.hid (And.intro hc hxy)
      clear hc hxy
      go_wp2_with fail
      refine HC.out.1.mono ?_
      rintro e w2 ⟨rfl, b2⟩
      have hh2 : w2.heap[ob]? = some (.cells #[.int .i64 (g 0).1, .int .i64 (g 0).2, .int .i64 (g 1).1, .int .i64 (g 1).2, .int .i64 (g 2).1, .int .i64 (g 2).2, .int .i64 0, .int .i64 0] 188 (0, 0)) := (b2.block _ (heap_lt HB.out.1)).trans HB.out.1
      have c0 := (cell_of_heap hh2 6).trans rfl
      have c1 := (cell_of_heap hh2 7).trans rfl
      have f0 := frozen_of_heap hh2 6
      have f1 := frozen_of_heap hh2 7
      have zo := heap_lt hh2
      have hh3 : ((w2.setCell ⟨ob, 6, none⟩ (.int .i64 x)).setCell ⟨ob, 7, none⟩ (.int .i64 y)).heap[ob]? = some (.cells (eachAgA g 4) 188 (0, 0)) := by
        have := heap_set (heap_set hh2 6 (.int .i64 x)) 7 (.int .i64 y)
        rw [this]
        simp [eachAgA, HC.out.2]
      have hK3 : Keep [ob] W ((w2.setCell ⟨ob, 6, none⟩ (.int .i64 x)).setCell ⟨ob, 7, none⟩ (.int .i64 y)) := ((HB.out.2.1.trans (Keep.of_below (S := []) b2) (by simp)).setCell (.inl (by simp)) _).setCell (.inl (by simp)) _
      have H3 := Lib.hid (And.intro hh3 hK3)
      clear hh2 hh3 hK3 b2
      go_wp2_with fail
      go_roundw
      case measure => simp [intOf]
      case rel => exact ⟨4, by omega, rfl, H3.out.1, H3.out.2⟩
    · have hh : wr.heap[ob]? = some (.cells #[.int .i64 (g 0).1, .int .i64 (g 0).2, .int .i64 (g 1).1, .int .i64 (g 1).2, .int .i64 (g 2).1, .int .i64 (g 2).2, .int .i64 (g 3).1, .int .i64 (g 3).2] 188 (0, 0)) := HB.out.1
      have hr : wr.heap[rb]? = some (.cells #[.int .i64 0, .int .i64 0, .int .i64 0, .int .i64 0, .int .i64 0, .int .i64 0, .int .i64 0, .int .i64 0] 188 (0, 0)) := (HB.out.2.1.block _ (heap_lt HR.out.1) (by simpa using HR.out.2.2.2.1)).trans HR.out.1
      have c0 := (cell_of_heap hh 0).trans rfl
      have c1 := (cell_of_heap hh 1).trans rfl
      have c2 := (cell_of_heap hh 2).trans rfl
      have c3 := (cell_of_heap hh 3).trans rfl
      have c4 := (cell_of_heap hh 4).trans rfl
      have c5 := (cell_of_heap hh 5).trans rfl
      have c6 := (cell_of_heap hh 6).trans rfl
      have c7 := (cell_of_heap hh 7).trans rfl
      have r0 := (cell_of_heap hr 0).trans rfl
      have f0 := frozen_of_heap hr 0
      have r1 := (cell_of_heap hr 1).trans rfl
      have f1 := frozen_of_heap hr 1
      have r2 := (cell_of_heap hr 2).trans rfl
      have f2 := frozen_of_heap hr 2
      have r3 := (cell_of_heap hr 3).trans rfl
      have f3 := frozen_of_heap hr 3
      have r4 := (cell_of_heap hr 4).trans rfl
      have f4 := frozen_of_heap hr 4
      have r5 := (cell_of_heap hr 5).trans rfl
      have f5 := frozen_of_heap hr 5
      have r6 := (cell_of_heap hr 6).trans rfl
      have f6 := frozen_of_heap hr 6
      have r7 := (cell_of_heap hr 7).trans rfl
      have f7 := frozen_of_heap hr 7
      have zo := heap_lt hh
      have zr := heap_lt hr
      have hfin : ((((((((wr.setCell ⟨rb, 0, none⟩ (.int .i64 (g 0).1)).setCell ⟨rb, 1, none⟩ (.int .i64 (g 0).2)).setCell ⟨rb, 2, none⟩ (.int .i64 (g 1).1)).setCell ⟨rb, 3, none⟩ (.int .i64 (g 1).2)).setCell ⟨rb, 4, none⟩ (.int .i64 (g 2).1)).setCell ⟨rb, 5, none⟩ (.int .i64 (g 2).2)).setCell ⟨rb, 6, none⟩ (.int .i64 (g 3).1)).setCell ⟨rb, 7, none⟩ (.int .i64 (g 3).2)).heap[rb]? = some (.cells #[.int .i64 (g 0).1, .int .i64 (g 0).2, .int .i64 (g 1).1, .int .i64 (g 1).2, .int .i64 (g 2).1, .int .i64 (g 2).2, .int .i64 (g 3).1, .int .i64 (g 3).2] 188 (0, 0)) := (heap_set (heap_set (heap_set (heap_set (heap_set (heap_set (heap_set (heap_set hr 0 (.int .i64 (g 0).1)) 1 (.int .i64 (g 0).2)) 2 (.int .i64 (g 1).1)) 3 (.int .i64 (g 1).2)) 4 (.int .i64 (g 2).1)) 5 (.int .i64 (g 2).2)) 6 (.int .i64 (g 3).1)) 7 (.int .i64 (g 3).2))
      have H3 := Lib.hid (And.intro hfin ((((((((HB.out.2.2.setCell (p := ⟨rb, 0, none⟩) hrw (.int .i64 (g 0).1)).setCell (p := ⟨rb, 1, none⟩) hrw (.int .i64 (g 0).2)).setCell (p := ⟨rb, 2, none⟩) hrw (.int .i64 (g 1).1)).setCell (p := ⟨rb, 3, none⟩) hrw (.int .i64 (g 1).2)).setCell (p := ⟨rb, 4, none⟩) hrw (.int .i64 (g 2).1)).setCell (p := ⟨rb, 5, none⟩) hrw (.int .i64 (g 2).2)).setCell (p := ⟨rb, 6, none⟩) hrw (.int .i64 (g 3).1)).setCell (p := ⟨rb, 7, none⟩) hrw (.int .i64 (g 3).2)))
      clear hh hr hfin
      go_wp2_with fail
      exact bodyPost_ret (spans_results (r := 2) rfl H3.out.1 _ rfl) rfl ⟨rfl, H3.out.2⟩
end Go.Proofs.Ytfmhlnfcbbpfeaa
/- copy of elements of several cells, within one block; what a block holds that repeats one element. No program is named here. -/
namespace Go.Proofs.Ytfmhlnfcbbpfeaa
open Go Go.RowKit
set_option linter.unusedVariables false
variable {P : Program}

theorem heap_setCells {g : Nat} {t : TypeId} {fr : Nat × Nat} : ∀ (vs : List Value) (o : Nat) (w : World) (cur : Array Value), w.heap[g]? = some (.cells cur t fr) → o + vs.length ≤ cur.size →
    ∃ cur' : Array Value, (w.setCells g o vs).heap[g]? = some (.cells cur' t fr) ∧ cur'.size = cur.size ∧ (∀ j, j < vs.length → cur'[o + j]? = vs[j]?) ∧ (∀ j, j < o ∨ o + vs.length ≤ j → cur'[j]? = cur[j]?)
  | [], o, w, cur, h, _ => ⟨cur, h, rfl, fun j hj => by simp at hj, fun _ _ => rfl⟩
  | v :: r, o, w, cur, h, hl => by
    obtain ⟨cur', h1, h2, h3, h4⟩ := heap_setCells r (o + 1) (w.setCell ⟨g, o, none⟩ v) (cur.setIfInBounds o v) (heap_set h o v) (by simp at hl ⊢; omega)
    simp only [List.length_cons] at hl ⊢
    refine ⟨cur', h1, by rw [h2]; simp, fun j hj => ?_, fun j hj => ?_⟩
    · cases j with
      | zero =>
        rw [h4 _ (by omega), Nat.add_zero, Array.getElem?_setIfInBounds_self_of_lt (by omega)]; rfl
      | succ j =>
        have := h3 j (by omega)
        rw [show o + (j + 1) = o + 1 + j from by omega, this]; rfl
    · rw [h4 j (by omega), Array.getElem?_setIfInBounds_ne (by omega)]
theorem Keep.setCells {S : List Nat} {w w' : World} (h : Keep S w w') {g : Nat} (hg : g ∈ S ∨ w.heap.size ≤ g) : ∀ (vs : List Value) (o : Nat), Keep S w (w'.setCells g o vs)
  | [], _ => h
  | v :: r, o => by
    rw [World.setCells]
    exact Keep.setCells (w' := w'.setCell ⟨g, o, none⟩ v) (h.setCell hg v) hg r (o + 1)

theorem run_copy_N (w : World) (dT sT ty elem : TypeId) (size b o dLen dCap : Nat) (a : Addr) (sLen sCap : Nat) (cs : List Value)
    (hu : P.underlying dT = some (.slice elem)) (hs : (P.info? elem).map (·.size) = some size) (hn : cs.length = Nat.min sLen dLen * size)
    (hsrc : ∀ j v, cs[j]? = some v → w.cell? (a.add j) = some v) (hc : ∀ j, j < cs.length → (w.cell? ⟨b, o + j, none⟩).isSome = true) (hf : ∀ j, j < cs.length → w.frozen? ⟨b, o + j, none⟩ = false) (h1 : ∀ v ∈ cs, v.oneCell' = true) :
    (Builtin.copy_ #[dT, sT] ty #[.slice (some ⟨b, o, none⟩) dLen dCap, .slice (some a) sLen sCap]).run P w = .ok (goInt (Nat.min sLen dLen)) (w.setCells b o cs) := by
  have hl := run_loadCells_list (P := P) w a cs hsrc
  have hst := run_storeCells_cells (P := P) b o cs 0 w (by simpa using hc) (by simpa using hf) h1
  cases hq : P.info? elem with
  | none => simp [hq] at hs
  | some i =>
    have hi : i.size = size := by simpa [hq] using hs
    simp [Builtin.copy_, run_underlying hu, Builtin.lenOf, Builtin.firstCells, sizeOf, typeInfo, hq, hi, ← hn, hl, hst]

/-- the first n elements of the block are the one whose cells are ys -/
def RepSt (ys : List Value) (n len : Nat) (cur : Array Value) : Prop := cur.size = len * ys.length ∧ ∀ j, j < n * ys.length → cur[j]? = ys[j % ys.length]?

/-- a copy of the first m elements behind the first n -/
theorem rep_copy {w : World} {dT sT ty elem : TypeId} {g n m len dCap sCap : Nat} {ys : List Value} {cur : Array Value} {t : TypeId}
    (hu : P.underlying dT = some (.slice elem)) (hs : (P.info? elem).map (·.size) = some ys.length) (hy : 0 < ys.length) (h1 : ∀ v ∈ ys, v.oneCell' = true)
    (hh : w.heap[g]? = some (.cells cur t (0, 0))) (hR : RepSt ys n len cur) (hn : n ≤ len) (hm : m = min n (len - n)) :
    ∃ w', (Builtin.copy_ #[dT, sT] ty #[.slice (some ⟨g, n * ys.length, none⟩) (len - n) dCap, .slice (some ⟨g, 0, none⟩) n sCap]).run P w = .ok (goInt m) w' ∧
      (∃ cur', w'.heap[g]? = some (.cells cur' t (0, 0)) ∧ RepSt ys (n + m) len cur') ∧ Keep [g] w w' ∧ w'.heap.size = w.heap.size := by
  obtain ⟨hz, hv⟩ := hR
  have hmn : m ≤ n := by omega
  have hms : n * ys.length + m * ys.length ≤ len * ys.length := by rw [← Nat.add_mul]; exact Nat.mul_le_mul_right _ (by omega)
  have hmn' : m * ys.length ≤ n * ys.length := Nat.mul_le_mul_right _ hmn
  have hlen : ((List.range (m * ys.length)).map fun j => ys.getD (j % ys.length) undef).length = m * ys.length := by simp
  obtain ⟨cs, hcs⟩ : ∃ cs : List Value, cs = (List.range (m * ys.length)).map fun j => ys.getD (j % ys.length) undef := ⟨_, rfl⟩
  have hcl : cs.length = m * ys.length := by rw [hcs]; exact hlen
  have hcg : ∀ j, j < m * ys.length → cs[j]? = ys[j % ys.length]? := fun j hj => by
    have hlt : j % ys.length < ys.length := Nat.mod_lt _ hy
    rw [hcs, List.getElem?_map, List.getElem?_range hj, List.getElem?_eq_getElem hlt]
    simp [List.getD_eq_getElem?_getD, List.getElem?_eq_getElem hlt]
  have hc := cell_of_heap hh
  obtain ⟨cur', e1, e2, e3, e4⟩ := heap_setCells cs (n * ys.length) w cur hh (by omega)
  refine ⟨w.setCells g (n * ys.length) cs, ?_, ⟨cur', e1, ?_⟩, (Keep.refl _ _).setCells (.inl (by simp)) _ _, ?_⟩
  · have hmin : Nat.min n (len - n) = m := hm.symm
    have := run_copy_N (P := P) w dT sT ty elem ys.length g (n * ys.length) (len - n) dCap ⟨g, 0, none⟩ n sCap cs hu hs (by rw [hcl, hmin])
      (fun j v hj => by
        have hjl : j < m * ys.length := by rw [← hcl]; exact (List.getElem?_eq_some_iff.1 hj).1
        rw [show (⟨g, 0, none⟩ : Addr).add j = ⟨g, j, none⟩ from by simp [Addr.add]; omega, hc, hv j (by omega), ← hcg j hjl]; exact hj)
      (fun j hj => by
        rw [hc, Array.getElem?_eq_getElem (by omega)]; rfl)
      (fun j hj => frozen_of_heap hh _)
      (fun v hv' => by
        obtain ⟨j, hj, rfl⟩ := List.mem_iff_getElem.1 hv'
        have hjm : j < m * ys.length := by omega
        have hlt : j % ys.length < ys.length := Nat.mod_lt _ hy
        have := hcg j hjm
        rw [List.getElem?_eq_getElem hj, List.getElem?_eq_getElem hlt] at this
        injection this with this
        rw [this]
        exact h1 _ (List.getElem_mem hlt))
    rw [hmin] at this
    exact this
  · refine ⟨by rw [e2, hz], fun j hj => ?_⟩
    rw [Nat.add_mul] at hj
    by_cases h : j < n * ys.length
    · rw [e4 j (.inl h), hv j h]
    · have := e3 (j - n * ys.length) (by omega)
      rw [show n * ys.length + (j - n * ys.length) = j from by omega] at this
      rw [this, hcg _ (by omega)]
      have e : (j - n * ys.length) % ys.length = j % ys.length := by
        conv => rhs; rw [show j = (j - n * ys.length) + n * ys.length from by omega]
        rw [Nat.add_mul_mod_self_right]
      rw [e]
  · have : ∀ (vs : List Value) (o : Nat) (w : World), (w.setCells g o vs).heap.size = w.heap.size := by
      intro vs
      induction vs with
      | nil => intro _ _; rfl
      | cons v r ih => intro o w; rw [World.setCells, ih]; simp [World.setCell]
    exact this _ _ _
/-- the first copy: one element -/
theorem rep_first {w : World} {dT sT ty elem : TypeId} {g len dCap sCap : Nat} {ad : Addr} {ys : List Value} {cur : Array Value} {t : TypeId}
    (hu : P.underlying dT = some (.slice elem)) (hs : (P.info? elem).map (·.size) = some ys.length) (hy : 0 < ys.length) (h1 : ∀ v ∈ ys, v.oneCell' = true)
    (hh : w.heap[g]? = some (.cells cur t (0, 0))) (hz : cur.size = len * ys.length) (hl : 0 < len) (hsrc : ∀ j v, ys[j]? = some v → w.cell? (ad.add j) = some v) :
    ∃ w', (Builtin.copy_ #[dT, sT] ty #[.slice (some ⟨g, 0, none⟩) len dCap, .slice (some ad) 1 sCap]).run P w = .ok (goInt 1) w' ∧
      (∃ cur', w'.heap[g]? = some (.cells cur' t (0, 0)) ∧ RepSt ys 1 len cur') ∧ Keep [g] w w' := by
  have hfit : ys.length ≤ len * ys.length := Nat.le_mul_of_pos_left _ hl
  obtain ⟨cur', e1, e2, e3, e4⟩ := heap_setCells ys 0 w cur hh (by omega)
  refine ⟨w.setCells g 0 ys, ?_, ⟨cur', e1, by rw [e2, hz], fun j hj => ?_⟩, (Keep.refl _ _).setCells (.inl (by simp)) _ _⟩
  · have hmin : Nat.min 1 len = 1 := by simp [Nat.min_def]; omega
    have := run_copy_N (P := P) w dT sT ty elem ys.length g 0 len dCap ad 1 sCap ys hu hs (by rw [hmin, Nat.one_mul]) hsrc
      (fun j hj => by rw [cell_of_heap hh, Array.getElem?_eq_getElem (by omega)]; rfl) (fun j hj => frozen_of_heap hh _) h1
    rw [hmin] at this
    exact this
  · rw [Nat.one_mul] at hj
    have := e3 j hj
    rw [Nat.zero_add] at this
    rw [this, Nat.mod_eq_of_lt hj]
end Go.Proofs.Ytfmhlnfcbbpfeaa
