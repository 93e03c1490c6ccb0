/- polynyalaw03.Frozen, Some: what they give lies within the limits (printed by wip/tools/fz.py) -/
import Derived.Test.YtfmhlnfcbbpfeaaRCp0
import Derived.Test.YtfmhlnfcbbpfeaaRCp14
import Derived.Test.YtfmhlnfcbbpfeaaRCp15
import Derived.Test.YtfmhlnfcbbpfeaaRCp16
import Derived.Test.YtfmhlnfcbbpfeaaRCp2
import Derived.IntWalk
set_option linter.unusedVariables false
namespace Go.Proofs.Ytfmhlnfcbbpfeaa
open Go Go.RowKit Go.Lib Sp
set_option linter.unusedVariables false
set_option linter.unusedSimpArgs false

/-- a function that yields numbers; its bytes lie below D, its cells from D on -/
def NxS (D : Nat) (w : World) (ib lb : Nat) : Prop := ∃ A c l k, DrawSt w ib lb A c l k ∧ Bytes l ∧ l.length ≤ 9223372036854775806 ∧ ib ≠ lb ∧ D ≤ ib ∧ D ≤ lb ∧ (0 < l.length → ∀ b off, A = some ⟨b, off, none⟩ → b < D)
theorem NxS.keep {D : Nat} {w w' : World} {ib lb : Nat} (h : NxS D w ib lb) {S : List Nat} (hk : Keep S w w') (hS : ∀ x ∈ S, D ≤ x ∧ x ≠ ib ∧ x ≠ lb) : NxS D w' ib lb := by
  obtain ⟨A, c, l, k, h1, h2, h3, h4, h5, h6, h7⟩ := h
  exact ⟨A, c, l, k, h1.keep hk (fun e => (hS _ e).2.1 rfl) (fun e => (hS _ e).2.2 rfl) (fun h0 b off e hm => by have := h7 h0 b off e; have := (hS _ hm).1; omega), h2, h3, h4, h5, h6, h7⟩
theorem NxS.below {D : Nat} {w w' : World} {ib lb : Nat} (h : NxS D w ib lb) (hb : Below w.heap.size w w') : NxS D w' ib lb := h.keep (S := []) (Keep.of_below hb) (by simp)
theorem NxS.lt {D : Nat} {w : World} {ib lb : Nat} (h : NxS D w ib lb) : ib < w.heap.size ∧ lb < w.heap.size ∧ D ≤ ib ∧ D ≤ lb ∧ ib ≠ lb := by
  obtain ⟨A, c, l, k, h1, h2, h3, h4, h5, h6, h7⟩ := h
  exact ⟨heap_lt h1.cnt, heap_lt h1.lst, h5, h6, h4⟩
def SomePost (D : Nat) (w : World) (ib lb : Nat) (n : Int) (e : Ending) (w' : World) : Prop := ∃ x : Int, e = .returned (.int .i64 x) ∧ (0 ≤ x ∧ x < n) ∧ NxS D w' ib lb ∧ Keep [ib] w w' ∧ w'.heap.size = w.heap.size
theorem next_some {D : Nat} {ib lb : Nat} (n : Int) {w : World} (h : NxS D w ib lb) (hn : 0 < n ∧ n ≤ 1000) :
    Calls Try.prog 114 #[.int .i64 n, .pointer (some ⟨ib, 0, none⟩), .pointer (some ⟨lb, 0, none⟩)] w (SomePost D w ib lb n) := by
  obtain ⟨A, c, l, k, h1, h2, h3, h4, h5, h6, h7⟩ := h
  refine (next_any ib lb A c l k n w h1 h2 h3 h4 (fun h0 b off e => by have := h7 h0 b off e; omega) hn).mono ?_
  rintro e w' ⟨rfl, q1, q2, q3⟩
  exact ⟨_, rfl, draw_range k hn.1, ⟨A, c, l, k + 1, q1, h2, h3, h4, h5, h6, h7⟩, q2, q3⟩
def DrawnPost (D : Nat) (w : World) (e : Ending) (w' : World) : Prop := ∃ ib lb, e = .returned (.func (.func 114) #[] #[.pointer (some ⟨ib, 0, none⟩), .pointer (some ⟨lb, 0, none⟩)]) ∧ NxS D w' ib lb ∧ w.heap.size ≤ ib ∧ w.heap.size ≤ lb ∧ Below w.heap.size w w'
theorem Drawn_some (D : Nat) (A : Option Addr) (c : Nat) (l : List Int) (w : World) (hr : Rd w 1 A l.length (byts l)) (hb : Bytes l) (hl : l.length ≤ 9223372036854775806) (hD : D ≤ w.heap.size) (hA : 0 < l.length → ∀ b off, A = some ⟨b, off, none⟩ → b < D) :
    Calls Try.prog 67 #[.slice A l.length c] w (DrawnPost D w) := by
  refine (Drawn_any A c l w hr).mono ?_
  rintro e w' ⟨rfl, h1, h2, h3⟩
  exact ⟨_, _, rfl, ⟨A, c, l, 0, h1, hb, hl, by omega, by omega, hD, hA⟩, by omega, Nat.le_refl _, h2⟩

/-- the state of a walk that draws numbers: the function's cells, and blocks of S -/
structure FzW (D : Nat) (W0 : World) (ib lb nb : Nat) (S : List Nat) (w : World) : Prop where
  kp : Keep (ib :: S) W0 w
  nx : NxS D w ib lb
  fn : w.cell? ⟨nb, 0, none⟩ = some (.func (.func 114) #[] #[.pointer (some ⟨ib, 0, none⟩), .pointer (some ⟨lb, 0, none⟩)])
theorem FzW.call {D : Nat} {W0 w w' : World} {ib lb nb : Nat} {S : List Nat} (h : FzW D W0 ib lb nb S w) (hn : NxS D w' ib lb) (hk : Keep [ib] w w') (hb : nb ≠ ib) : FzW D W0 ib lb nb S w' :=
  ⟨h.kp.trans hk (fun x hx => .inl (by simp at hx; simp [hx])), hn, hk.cell h.fn (by simpa using hb)⟩
theorem FzW.keep {D : Nat} {W0 w w' : World} {ib lb nb : Nat} {S T : List Nat} (h : FzW D W0 ib lb nb S w) (hk : Keep T w w') (hT : ∀ x ∈ T, (x ∈ S ∨ W0.heap.size ≤ x) ∧ D ≤ x ∧ x ≠ ib ∧ x ≠ lb ∧ x ≠ nb) : FzW D W0 ib lb nb S w' :=
  ⟨h.kp.trans hk (fun x hx => by rcases (hT x hx).1 with e | e; exact .inl (by simp [e]); exact .inr e), h.nx.keep hk (fun x hx => ⟨(hT x hx).2.1, (hT x hx).2.2.1, (hT x hx).2.2.2.1⟩), hk.cell h.fn (fun e => (hT _ e).2.2.2.2 rfl)⟩
theorem FzW.start {D : Nat} {W0 : World} {ib lb nb : Nat} {S : List Nat} (hn : NxS D W0 ib lb) (hf : W0.cell? ⟨nb, 0, none⟩ = some (.func (.func 114) #[] #[.pointer (some ⟨ib, 0, none⟩), .pointer (some ⟨lb, 0, none⟩)])) : FzW D W0 ib lb nb S W0.drew :=
  ⟨(Keep.refl _ _).drew, hn.keep (S := []) ((Keep.refl _ _).drew) (by simp), hf⟩

set_option linter.unusedVariables false
def FaV (D : Nat) (W0 : World) (ib lb nb : Nat) (st wd m q : Int) (s : Int × Nat) : Nat → Value → Prop
  | 0, v => v = .int .i64 0
  | 1, v => v = .int .i64 st
  | 2, v => v = .func (.func 114) #[] #[.pointer (some ⟨ib, 0, none⟩), .pointer (some ⟨lb, 0, none⟩)]
  | 3, v => v = .int .i64 m
  | 4, v => v = .int .i64 st
  | 5, v => v = .int .i64 q
  | 6, v => v = .int .i64 (q + 1)
  | 7, v => v = .int .i64 0
  | 8, v => v = .int .i64 st
  | 9, v => v = .int .i64 0
  | 10, v => v = .int .i64 (q + 1)
  | 11, v => v = .int .i64 s.1
  | 12, v => v = .int .i64 (st * s.1)
  | 13, v => v = .int .i64 (st * s.1)
  | 14, v => v = .agg #[.int .i64 (st * s.1), .int .i64 0]
  | 15, v => v = .pointer (some ⟨s.2, 0, none⟩)
  | _, _ => True
def FaW (D : Nat) (W0 : World) (ib lb nb : Nat) (st wd m q : Int) (s : Int × Nat) (l : Nat → Bool) (w : World) : Prop := FzW D W0 ib lb nb [] w ∧ (l 11 = true → 0 ≤ s.1 ∧ s.1 ≤ q) ∧ (l 15 = true → W0.heap.size ≤ s.2 ∧ w.heap[s.2]? = some (.cells (if l 16 then #[.int .i64 (st * s.1), .int .i64 0] else #[.int .i64 0, .int .i64 0]) 42 (0, 0)))
set_option linter.unusedVariables false
def FbV (D : Nat) (W0 : World) (ib lb nb sb : Nat) (wd m lo : Int) (s : Int) : Nat → Value → Prop
  | 0, v => v = .int .i64 m
  | 1, v => v = .pointer (some ⟨sb, 0, none⟩)
  | 2, v => v = .int .i64 lo
  | 3, v => v = .func (.func 114) #[] #[.pointer (some ⟨ib, 0, none⟩), .pointer (some ⟨lb, 0, none⟩)]
  | 4, v => v = .int .i64 wd
  | 5, v => v = .int .i64 s
  | 6, v => v = .int .i64 (lo + s)
  | 7, v => v = .int .i64 (if lo + s < m then lo + s else m)
  | 8, v => v = .pointer (some ⟨sb, 1, none⟩)
  | _, _ => True
def FbW (D : Nat) (W0 : World) (ib lb nb sb : Nat) (wd m lo : Int) (s : Int) (l : Nat → Bool) (w : World) : Prop := FzW D W0 ib lb nb [sb] w ∧ (l 5 = true → 0 ≤ s ∧ s < wd) ∧ w.heap[sb]? = some (.cells (if l 9 then #[.int .i64 lo, .int .i64 (if lo + s < m then lo + s else m)] else #[.int .i64 lo, .int .i64 0]) 42 (0, 0))

def SpanPost (D : Nat) (w : World) (ib lb : Nat) (m : Int) (e : Ending) (w' : World) : Prop := ∃ lo hi : Int, e = .returned (.agg #[.int .i64 lo, .int .i64 hi]) ∧ (0 ≤ lo ∧ lo ≤ hi ∧ hi ≤ m) ∧ NxS D w' ib lb ∧ Keep [ib] w w'
set_option maxRecDepth 100000 in
set_option maxHeartbeats 4000000 in
theorem frozen1_any (D ib lb nb : Nat) (st wd m q : Int) (hq : Int.tdiv m st = q) (hst : 1 ≤ st ∧ st ≤ 10) (hm : 0 ≤ m ∧ m ≤ 900) (hqq : 0 ≤ q ∧ q ≤ 900 ∧ st * q ≤ m) (hwd : 1 ≤ wd ∧ wd ≤ 1000) (w : World) (hn : NxS D w ib lb) (hf : w.cell? ⟨nb, 0, none⟩ = some (.func (.func 114) #[] #[.pointer (some ⟨ib, 0, none⟩), .pointer (some ⟨lb, 0, none⟩)])) (hnb : nb ≠ ib) :
    Calls Try.prog 117 #[.int .i64 0, .int .i64 st, .int .i64 wd, .int .i64 m, .pointer (some ⟨nb, 0, none⟩)] w (SpanPost D w ib lb m) := by
  obtain ⟨W, hW⟩ : ∃ W, W = w.alloc (.cells #[.int .i64 0, .int .i64 0] 42) := ⟨_, rfl⟩
  obtain ⟨rb, hrb⟩ : ∃ b, b = w.heap.size := ⟨_, rfl⟩
  have hrh : W.heap[rb]? = some (.cells #[.int .i64 0, .int .i64 0] 42 (0, 0)) := by rw [hW, hrb]; exact heap_alloc_new _ _
  have bW : Below w.heap.size w W := by rw [hW]; exact (Below.refl _ _).alloc (Nat.le_refl _) _
  have hz : W.heap.size = rb + 1 := by rw [hW, hrb]; simp
  have hlt := hn.lt
  have hnl : nb < w.heap.size := World.block_lt_of_cell? _ _ hf
  have HN := Lib.hid (And.intro hnb (And.intro (show ib < W.heap.size ∧ lb < W.heap.size ∧ nb < W.heap.size ∧ D ≤ ib ∧ D ≤ W.heap.size from by omega) (And.intro (show ib ≠ rb ∧ lb ≠ rb ∧ nb ≠ rb ∧ rb < W.heap.size from by omega) (And.intro (show w.heap.size ≤ rb by omega) (And.intro hrh (And.intro (hn.below bW) ((bW.cell hnl).trans hf)))))))
  have HW := Lib.hid bW
  have HQ := Lib.hid (And.intro hq hqq.2.2)
  obtain ⟨st1, st2⟩ := hst
  obtain ⟨m1, m2⟩ := hm
  obtain ⟨q1, q2, _⟩ := hqq
  obtain ⟨wd1, wd2⟩ := hwd
  clear hrh bW hn hf hnb hlt hnl hq
  go_enter Try.func117, Try.ntmps117
  go_upto_region 1 with fail
  rw [← hW, ← hrb]
  clear hW hrb
  refine wp_region_steps (σ := Int × Nat) (by kernel_rfl) (by kernel_rfl) (fun sg jx vx _ => FaV D W ib lb nb st wd m q sg jx vx) (fun sg ly wx => FaW D W ib lb nb st wd m q sg ly wx) (0, 0) ?_ ?_ ?_
  · exact ⟨FzW.start HN.out.2.2.2.2.2.1 HN.out.2.2.2.2.2.2, (fun h => by cases h), (fun h => by cases h)⟩
  · simp only [AllFrom, Nat.zero_add, Nat.reduceAdd]
    refine ⟨?_, ?_, ?_, ?_, ?_, ?_, ?_, ?_, ?_, ?_, ?_, ?_, ?_, ?_, ?_, ?_, ?_, trivial⟩
    · refine step_pure fun sg ly a wr hl hd hW hF => ?_
      have et0 := hF.old 0 (by kernel_rfl)
      simp [Act.eval] at et0
      exact ⟨by simpa [FaW, upd] using hW, .int .i64 0, by go_simp, rfl⟩
    · refine step_pure fun sg ly a wr hl hd hW hF => ?_
      have et1 := hF.old 1 (by kernel_rfl)
      simp [Act.eval] at et1
      exact ⟨by simpa [FaW, upd] using hW, .int .i64 st, by go_simp, rfl⟩
    · refine step_pure fun sg ly a wr hl hd hW hF => ?_
      have et4 := hF.old 4 (by kernel_rfl)
      simp [Act.eval] at et4
      have c0 := hW.1.fn
      exact ⟨by simpa [FaW, upd] using hW, _, by go_simp, rfl⟩
    · refine step_pure fun sg ly a wr hl hd hW hF => ?_
      have et3 := hF.old 3 (by kernel_rfl)
      simp [Act.eval] at et3
      exact ⟨by simpa [FaW, upd] using hW, .int .i64 m, by go_simp, rfl⟩
    · refine step_pure fun sg ly a wr hl hd hW hF => ?_
      have et1 := hF.old 1 (by kernel_rfl)
      simp [Act.eval] at et1
      exact ⟨by simpa [FaW, upd] using hW, .int .i64 st, by go_simp, rfl⟩
    · refine step_pure fun sg ly a wr hl hd hW hF => ?_
      simp [Region.binds] at hd
      have et14 := hF.new 3 14 (by simp [hd]) rfl
      simp [FaV, Act.eval] at et14
      have et15 := hF.new 4 15 (by simp [hd]) rfl
      simp [FaV, Act.eval] at et15
      have hq1 := HQ.out.1
      have n0 : ¬ st = 0 := by omega
      have ew := IntWalk.i64_in q (by omega)
      exact ⟨by simpa [FaW, upd] using hW, .int .i64 q, by go_simp, rfl⟩
    · refine step_pure fun sg ly a wr hl hd hW hF => ?_
      simp [Region.binds] at hd
      have et16 := hF.new 5 16 (by simp [hd]) rfl
      simp [FaV, Act.eval] at et16
      have ew := IntWalk.i64_in (q + 1) (by omega)
      exact ⟨by simpa [FaW, upd] using hW, .int .i64 (q + 1), by go_simp, rfl⟩
    · refine step_pure fun sg ly a wr hl hd hW hF => ?_
      have et0 := hF.old 0 (by kernel_rfl)
      simp [Act.eval] at et0
      exact ⟨by simpa [FaW, upd] using hW, .int .i64 0, by go_simp, rfl⟩
    · refine step_pure fun sg ly a wr hl hd hW hF => ?_
      have et1 := hF.old 1 (by kernel_rfl)
      simp [Act.eval] at et1
      exact ⟨by simpa [FaW, upd] using hW, .int .i64 st, by go_simp, rfl⟩
    · refine step_pure fun sg ly a wr hl hd hW hF => ?_
      simp [Region.binds] at hd
      have et18 := hF.new 7 18 (by simp [hd]) rfl
      simp [FaV, Act.eval] at et18
      have et19 := hF.new 8 19 (by simp [hd]) rfl
      simp [FaV, Act.eval] at et19
      have n0 : ¬ st = 0 := by omega
      have ew : IntKind.i64.wrap 0 = 0 := rfl
      exact ⟨by simpa [FaW, upd] using hW, .int .i64 0, by go_simp, rfl⟩
    · refine step_pure fun sg ly a wr hl hd hW hF => ?_
      simp [Region.binds] at hd
      have et17 := hF.new 6 17 (by simp [hd]) rfl
      simp [FaV, Act.eval] at et17
      have et20 := hF.new 9 20 (by simp [hd]) rfl
      simp [FaV, Act.eval] at et20
      have ew := IntWalk.i64_in (q + 1) (by omega)
      exact ⟨by simpa [FaW, upd] using hW, .int .i64 (q + 1), by go_simp, rfl⟩
    · refine step_call fun sg ly a wr hl hd hW hF => ?_
      simp [Region.binds] at hd
      have et13 := hF.new 2 13 (by simp [hd]) rfl
      simp [FaV, Act.eval] at et13
      have et21 := hF.new 10 21 (by simp [hd]) rfl
      simp [FaV, Act.eval] at et21
      have n12 := hF.notYet 11 12 hl (by kernel_rfl)
      have n13_12 := hF.notYet 11 12 hl (by kernel_rfl)
      have n13 := hF.notYet 12 13 n13_12 (by kernel_rfl)
      have n14_12 := hF.notYet 11 12 hl (by kernel_rfl)
      have n14_13 := hF.notYet 12 13 n14_12 (by kernel_rfl)
      have n14 := hF.notYet 13 14 n14_13 (by kernel_rfl)
      have n16_12 := hF.notYet 11 12 hl (by kernel_rfl)
      have n16_13 := hF.notYet 12 13 n16_12 (by kernel_rfl)
      have n16_14 := hF.notYet 13 14 n16_13 (by kernel_rfl)
      have n16 := hF.notYet 14 16 n16_14 (by kernel_rfl)
      refine ⟨114, #[.int .i64 (q + 1), .pointer (some ⟨ib, 0, none⟩), .pointer (some ⟨lb, 0, none⟩)], by go_simp, ?_⟩
      refine (next_some (q + 1) hW.1.nx (by omega)).mono ?_
      rintro e w2 ⟨x, rfl, ⟨x1, x2⟩, x3, x4, x5⟩
      refine ⟨_, (x, sg.2), rfl, ⟨hW.1.call x3 x4 HN.out.1, fun _ => ⟨x1, by simp only; omega⟩, ?_⟩, rfl, ?_⟩
      · rw [show upd ly 11 15 = ly 15 from rfl, show upd ly 11 16 = ly 16 from rfl, n16]
        intro e15
        have hh := hW.2.2 e15
        rw [n16] at hh
        exact ⟨hh.1, (x4.block _ (heap_lt hh.2) (by have := hW.1.kp.size; have := HN.out.2; simp; omega)).trans hh.2⟩
      · intro i u hi h
        have i11 : i ≠ 11 := by rintro rfl; rw [hl] at hi; cases hi
        have i12 : i ≠ 12 := by rintro rfl; rw [n12] at hi; cases hi
        have i13 : i ≠ 13 := by rintro rfl; rw [n13] at hi; cases hi
        have i14 : i ≠ 14 := by rintro rfl; rw [n14] at hi; cases hi
        unfold FaV at h ⊢
        split at h <;> first | exact h | exact absurd rfl i11 | exact absurd rfl i12 | exact absurd rfl i13 | exact absurd rfl i14
    · refine step_pure fun sg ly a wr hl hd hW hF => ?_
      simp [Region.binds] at hd
      have et12 := hF.new 1 12 (by simp [hd]) rfl
      simp [FaV, Act.eval] at et12
      have et22 := hF.new 11 22 (by simp [hd]) rfl
      simp [FaV, Act.eval] at et22
      have y0 : ly 11 = true := by simp [hd]
      obtain ⟨y1, y2⟩ := hW.2.1 y0
      have y3 := Int.mul_nonneg (show (0 : Int) ≤ st by omega) y1
      have y4 := Int.mul_le_mul_of_nonneg_left y2 (show (0 : Int) ≤ st by omega)
      have y5 := HQ.out.2
      have ew := IntWalk.i64_in (st * sg.1) (by omega)
      exact ⟨by simpa [FaW, upd] using hW, .int .i64 (st * sg.1), by go_simp, rfl⟩
    · refine step_pure fun sg ly a wr hl hd hW hF => ?_
      simp [Region.binds] at hd
      have et11 := hF.new 0 11 (by simp [hd]) rfl
      simp [FaV, Act.eval] at et11
      have et23 := hF.new 12 23 (by simp [hd]) rfl
      simp [FaV, Act.eval] at et23
      have y0 := hF.before 11 12 (by simp [hd]) (by kernel_rfl)
      obtain ⟨y1, y2⟩ := hW.2.1 y0
      have y3 := Int.mul_nonneg (show (0 : Int) ≤ st by omega) y1
      have y4 := Int.mul_le_mul_of_nonneg_left y2 (show (0 : Int) ≤ st by omega)
      have y5 := HQ.out.2
      have ew := IntWalk.i64_in (st * sg.1) (by omega)
      exact ⟨by simpa [FaW, upd] using hW, .int .i64 (st * sg.1), by go_simp, rfl⟩
    · refine step_pure fun sg ly a wr hl hd hW hF => ?_
      simp [Region.binds] at hd
      have et24 := hF.new 13 24 (by simp [hd]) rfl
      simp [FaV, Act.eval] at et24
      exact ⟨by simpa [FaW, upd] using hW, .agg #[.int .i64 (st * sg.1), .int .i64 0], by go_simp, rfl⟩
    · refine step_run fun sg ly a wr hl hd hW hF => ?_
      have n16 := hF.notYet 15 16 hl (by kernel_rfl)
      have ka : Keep [] wr (wr.alloc (.cells #[.int .i64 0, .int .i64 0] 42)) := (Keep.refl _ _).alloc _
      refine ⟨_, wr.alloc (.cells #[.int .i64 0, .int .i64 0] 42), (sg.1, wr.heap.size), by go_simp, ⟨hW.1.keep ka (by simp), hW.2.1, fun _ => ⟨hW.1.kp.size, by rw [show upd ly 15 16 = ly 16 from rfl, n16]; exact heap_alloc_new _ _⟩⟩, rfl, ?_⟩
      intro i u hi h
      have i15 : i ≠ 15 := by rintro rfl; rw [hl] at hi; cases hi
      unfold FaV at h ⊢
      split at h <;> first | exact h | exact absurd rfl i15
    · refine step_store rfl fun sg ly a wr hl hd hW hF => ?_
      simp [Region.binds] at hd
      have et10 := hF.new 15 10 (by simp [hd]) rfl
      simp [FaV, Act.eval] at et10
      have et25 := hF.new 14 25 (by simp [hd]) rfl
      simp [FaV, Act.eval] at et25
      have y := hW.2.2 (by simp [hd])
      rw [hl] at y
      have hh := y.2
      have c0 := (cell_of_heap hh 0).trans rfl
      have c1 := (cell_of_heap hh 1).trans rfl
      have f0 := frozen_of_heap hh 0
      have f1 := frozen_of_heap hh 1
      have zq := heap_lt hh
      refine ⟨(wr.setCell ⟨sg.2, 0, none⟩ (.int .i64 (st * sg.1))).setCell ⟨sg.2, 1, none⟩ (.int .i64 0), sg, .skip, by go_simp, .inl rfl, ⟨hW.1.keep (T := [sg.2]) (((Keep.refl _ _).setCell (.inl (by simp)) _).setCell (.inl (by simp)) _) ?_, hW.2.1, fun _ => ⟨y.1, by rw [if_pos (by simp [upd])]; exact heap_set (heap_set hh 0 _) 1 _⟩⟩, fun _ _ _ h => h⟩
      intro z hz
      rw [List.mem_singleton.1 hz]
      have := HN.out.2
      exact ⟨.inr y.1, by omega, by omega, by omega, by omega⟩
  intro sg a w5 hWW hF
  have e10 := hF.new 15 10 (by decide) rfl
  obtain ⟨f, hf, rfl⟩ := hF.lit
  rw [← hf] at e10
  simp only [FaV] at e10
  obtain ⟨x1, x2⟩ := hWW.2.1 rfl
  obtain ⟨g1, g2⟩ := hWW.2.2 rfl
  simp only [List.length_cons, List.length_nil, Nat.reduceAdd, Nat.reduceLT, decide_true, if_true] at g2
  obtain ⟨lo, hlo⟩ : ∃ lo, lo = st * sg.1 := ⟨_, rfl⟩
  have y3 := Int.mul_nonneg (show (0 : Int) ≤ st by omega) x1
  have y4 := Int.mul_le_mul_of_nonneg_left x2 (show (0 : Int) ≤ st by omega)
  have y5 := HQ.out.2
  have lo1 : 0 ≤ lo ∧ lo ≤ m := by omega
  obtain ⟨lo1, lo2⟩ := lo1
  rw [← hlo] at g2
  have H5 := Lib.hid (And.intro g2 (And.intro hWW.1 g1))
  have HSB := Lib.hid (show sg.2 ≠ ib ∧ sg.2 ≠ lb ∧ sg.2 ≠ nb ∧ D ≤ sg.2 from by have := HN.out.2.1; omega)
  clear hf hF hWW x1 x2 g1 g2 hlo y3 y4 y5
  simp only [List.filterMap, List.foldl, List.setIfInBounds_toArray, List.set_cons_succ, List.set_cons_zero, e10]
  clear e10
  obtain ⟨sb, hsb⟩ : ∃ sb, sb = sg.2 := ⟨_, rfl⟩
  rw [← hsb] at H5 HSB ⊢
  clear hsb
  go_upto_region 2 with fail
  refine wp_region_steps (σ := Int) (by kernel_rfl) (by kernel_rfl) (fun sg jx vx _ => FbV D w5 ib lb nb sb wd m lo sg jx vx) (fun sg ly wx => FbW D w5 ib lb nb sb wd m lo sg ly wx) 0 ?_ ?_ ?_
  · exact ⟨FzW.start H5.out.2.1.nx H5.out.2.1.fn, (fun h => by cases h), by rw [if_neg (by simp)]; exact H5.out.1⟩
  · simp only [AllFrom, Nat.zero_add, Nat.reduceAdd]
    refine ⟨?_, ?_, ?_, ?_, ?_, ?_, ?_, ?_, ?_, ?_, trivial⟩
    · refine step_pure fun sg ly a wr hl hd hW hF => ?_
      have et3 := hF.old 3 (by kernel_rfl)
      simp [Act.eval] at et3
      exact ⟨by simpa [FbW, upd] using hW, .int .i64 m, by go_simp, rfl⟩
    · refine step_pure fun sg ly a wr hl hd hW hF => ?_
      have et10 := hF.old 10 (by kernel_rfl)
      simp [Act.eval] at et10
      exact ⟨by simpa [FbW, upd] using hW, .pointer (some ⟨sb, 0, none⟩), by go_simp, rfl⟩
    · refine step_pure fun sg ly a wr hl hd hW hF => ?_
      simp [Region.binds] at hd
      have et27 := hF.new 1 27 (by simp [hd]) rfl
      simp [FbV, Act.eval] at et27
      have n9_6 := hF.notYet 2 6 hl (by kernel_rfl)
      have n9_7 := hF.notYet 6 7 n9_6 (by kernel_rfl)
      have n9 := hF.notYet 7 9 n9_7 (by kernel_rfl)
      have hh := hW.2.2
      rw [if_neg (by simp [n9])] at hh
      have c0 := (cell_of_heap hh 0).trans rfl
      exact ⟨by simpa [FbW, upd] using hW, _, by go_simp, rfl⟩
    · refine step_pure fun sg ly a wr hl hd hW hF => ?_
      have et4 := hF.old 4 (by kernel_rfl)
      simp [Act.eval] at et4
      have c0 := hW.1.fn
      exact ⟨by simpa [FbW, upd] using hW, _, by go_simp, rfl⟩
    · refine step_pure fun sg ly a wr hl hd hW hF => ?_
      have et2 := hF.old 2 (by kernel_rfl)
      simp [Act.eval] at et2
      exact ⟨by simpa [FbW, upd] using hW, .int .i64 wd, by go_simp, rfl⟩
    · refine step_call fun sg ly a wr hl hd hW hF => ?_
      simp [Region.binds] at hd
      have et29 := hF.new 3 29 (by simp [hd]) rfl
      simp [FbV, Act.eval] at et29
      have et30 := hF.new 4 30 (by simp [hd]) rfl
      simp [FbV, Act.eval] at et30
      have n6 := hF.notYet 5 6 hl (by kernel_rfl)
      have n7_6 := hF.notYet 5 6 hl (by kernel_rfl)
      have n7 := hF.notYet 6 7 n7_6 (by kernel_rfl)
      have n9_6 := hF.notYet 5 6 hl (by kernel_rfl)
      have n9_7 := hF.notYet 6 7 n9_6 (by kernel_rfl)
      have n9 := hF.notYet 7 9 n9_7 (by kernel_rfl)
      refine ⟨114, #[.int .i64 wd, .pointer (some ⟨ib, 0, none⟩), .pointer (some ⟨lb, 0, none⟩)], by go_simp, ?_⟩
      refine (next_some wd hW.1.nx (by omega)).mono ?_
      rintro e w2 ⟨x, rfl, x2, x3, x4, x5⟩
      refine ⟨_, x, rfl, ⟨hW.1.call x3 x4 HN.out.1, fun _ => x2, ?_⟩, rfl, ?_⟩
      · have hh := hW.2.2
        rw [n9] at hh
        rw [show upd ly 5 9 = ly 9 from rfl, n9]
        exact (x4.block _ (heap_lt hh) (by have := HSB.out; simp; omega)).trans hh
      · intro i u hi h
        have i5 : i ≠ 5 := by rintro rfl; rw [hl] at hi; cases hi
        have i6 : i ≠ 6 := by rintro rfl; rw [n6] at hi; cases hi
        have i7 : i ≠ 7 := by rintro rfl; rw [n7] at hi; cases hi
        unfold FbV at h ⊢
        split at h <;> first | exact h | exact absurd rfl i5 | exact absurd rfl i6 | exact absurd rfl i7
    · refine step_pure fun sg ly a wr hl hd hW hF => ?_
      simp [Region.binds] at hd
      have et28 := hF.new 2 28 (by simp [hd]) rfl
      simp [FbV, Act.eval] at et28
      have et31 := hF.new 5 31 (by simp [hd]) rfl
      simp [FbV, Act.eval] at et31
      have y0 : ly 5 = true := by simp [hd]
      obtain ⟨y1, y2⟩ := hW.2.1 y0
      have ew := IntWalk.i64_in (lo + sg) (by omega)
      exact ⟨by simpa [FbW, upd] using hW, .int .i64 (lo + sg), by go_simp, rfl⟩
    · refine step_pure fun sg ly a wr hl hd hW hF => ?_
      simp [Region.binds] at hd
      have et26 := hF.new 0 26 (by simp [hd]) rfl
      simp [FbV, Act.eval] at et26
      have et32 := hF.new 6 32 (by simp [hd]) rfl
      simp [FbV, Act.eval] at et32
      exact ⟨by simpa [FbW, upd] using hW, .int .i64 (if lo + sg < m then lo + sg else m), by go_simp, rfl⟩
    · refine step_pure fun sg ly a wr hl hd hW hF => ?_
      have et10 := hF.old 10 (by kernel_rfl)
      simp [Act.eval] at et10
      exact ⟨by simpa [FbW, upd] using hW, .pointer (some ⟨sb, 1, none⟩), by go_simp, rfl⟩
    · refine step_store rfl fun sg ly a wr hl hd hW hF => ?_
      simp [Region.binds] at hd
      have et34 := hF.new 8 34 (by simp [hd]) rfl
      simp [FbV, Act.eval] at et34
      have et33 := hF.new 7 33 (by simp [hd]) rfl
      simp [FbV, Act.eval] at et33
      have hh := hW.2.2
      rw [if_neg (by simp [hl])] at hh
      have c1 := (cell_of_heap hh 1).trans rfl
      have f1 := frozen_of_heap hh 1
      have zq := heap_lt hh
      refine ⟨wr.setCell ⟨sb, 1, none⟩ (.int .i64 (if lo + sg < m then lo + sg else m)), sg, .skip, by go_simp, .inl rfl, ⟨hW.1.keep (T := [sb]) ((Keep.refl _ _).setCell (.inl (by simp)) _) ?_, hW.2.1, by rw [show upd ly 9 9 = true from if_pos rfl, if_pos rfl]; exact heap_set hh 1 _⟩, fun _ _ _ h => h⟩
      intro z hz
      rw [List.mem_singleton.1 hz]
      have := HN.out.2
      have := HSB.out
      exact ⟨.inl (by simp), by omega, by omega, by omega, by omega⟩
  intro sg2 a w6 hWW hF
  obtain ⟨f2, hf, rfl⟩ := hF.lit
  obtain ⟨y1, y2⟩ := hWW.2.1 rfl
  have g6 := hWW.2.2
  simp only [List.length_cons, List.length_nil, Nat.reduceAdd, Nat.reduceLT, decide_true, if_true] at g6
  obtain ⟨hi, hhi⟩ : ∃ hi, hi = (if lo + sg2 < m then lo + sg2 else m) := ⟨_, rfl⟩
  have hib : lo ≤ hi ∧ hi ≤ m := by rw [hhi]; split <;> omega
  obtain ⟨hi1, hi2⟩ := hib
  rw [← hhi] at g6
  have kk : Keep [ib, sb] w5 w6 := hWW.1.kp
  have hrr : w6.heap[rb]? = some (.cells #[.int .i64 0, .int .i64 0] 42 (0, 0)) := by
    have e1 := (H5.out.2.1.kp.block _ HN.out.2.2.1.2.2.2 (by simpa using HN.out.2.2.1.1.symm)).trans HN.out.2.2.2.2.1
    exact (kk.block _ (heap_lt e1) (by have := HN.out.2.2.1; have := H5.out.2.2; simp; omega)).trans e1
  have kw : Keep [ib] w w6 := ((Keep.of_below (S := [ib]) HW.out).trans H5.out.2.1.kp (fun z hz => .inl hz)).trans kk (fun z hz => by
    rcases List.mem_cons.1 hz with e | e
    · exact .inl (by simp [e])
    · rw [List.mem_singleton.1 e]; exact .inr (by have := HW.out.size; have := H5.out.2.2; omega))
  have c0 := (cell_of_heap g6 0).trans rfl
  have c1 := (cell_of_heap g6 1).trans rfl
  have zs := heap_lt g6
  have r0 := (cell_of_heap hrr 0).trans rfl
  have r1 := (cell_of_heap hrr 1).trans rfl
  have f0 := frozen_of_heap hrr 0
  have f1 := frozen_of_heap hrr 1
  have zr := heap_lt hrr
  have hfin : ((w6.setCell ⟨rb, 0, none⟩ (.int .i64 lo)).setCell ⟨rb, 1, none⟩ (.int .i64 hi)).heap[rb]? = some (.cells #[.int .i64 lo, .int .i64 hi] 42 (0, 0)) := heap_set (heap_set hrr 0 (.int .i64 lo)) 1 (.int .i64 hi)
  have kr : Keep [rb] w6 ((w6.setCell ⟨rb, 0, none⟩ (.int .i64 lo)).setCell ⟨rb, 1, none⟩ (.int .i64 hi)) := ((Keep.refl _ _).setCell (.inl (by simp)) _).setCell (.inl (by simp)) _
  have H6 := Lib.hid (And.intro hfin (And.intro (hWW.1.nx.keep kr (fun z hz => by rw [List.mem_singleton.1 hz]; have := HN.out; omega)) (kw.trans kr (fun z hz => .inr (by rw [List.mem_singleton.1 hz]; exact HN.out.2.2.2.1)))))
  clear hf hF hWW y1 y2 g6 hhi kk hrr kw hfin kr
  simp only [List.filterMap, List.foldl, List.setIfInBounds_toArray, List.set_cons_succ, List.set_cons_zero]
  go_wp2_with fail
  exact bodyPost_ret (span_results (r := 9) rfl H6.out.1 _ rfl) rfl ⟨lo, hi, rfl, ⟨lo1, hi1, hi2⟩, H6.out.2.1, H6.out.2.2⟩

end Go.Proofs.Ytfmhlnfcbbpfeaa
