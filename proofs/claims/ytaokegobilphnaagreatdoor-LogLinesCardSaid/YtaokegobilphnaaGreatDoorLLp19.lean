/- math/bits.Mul of 1 and a number; ice: whole, each, cell, Whole (printed by wip/tools/icej.py) -/
import Derived.Test.YtaokegobilphnaaGreatDoorLLp16
import Derived.Laws.Bits64b
import Derived.IntWalk
import Derived.Test.YtaokegobilphnaaGreatDoorLLp18
import Derived.Test.YtaokegobilphnaaGreatDoorLLp0
import Derived.Laws.IdiomCopy
import Derived.Laws.MakeOwn
import Derived.Laws.OwnMore
import Derived.Test.YtaokegobilphnaaGreatDoorLLp1
set_option linter.unusedVariables false
set_option linter.unusedSimpArgs false
namespace Go.Proofs.YtaokegobilphnaaGreatDoor
open Go Go.RowKit Go.Lib Sp
set_option linter.unusedVariables false

theorem bitsN (n : Nat) (hn : n < 4294967296) : bits .and .u64 (n : Int) 4294967295 = (n : Int) := by
  have h := bits_and_u64_nat n 4294967295 (by omega) (by omega)
  have e : n &&& 4294967295 = n := by
    have := Nat.and_two_pow_sub_one_eq_mod n 32
    simp only [Nat.reducePow, Nat.reduceSub] at this
    rw [this]; omega
  rw [e] at h
  exact h
set_option maxRecDepth 100000 in
set_option maxHeartbeats 1000000 in
theorem mul64_any (n : Nat) (hn : n < 1000000) (w : World) :
    Calls Tryz.prog 144 #[.int .u64 1, .int .u64 n] w fun e w' => e = .returned (.tuple #[.int .u64 0, .int .u64 n]) ∧ w = w' := by
  have h1 := bitsN n (by omega)
  have h4 : bits .and .u64 1 4294967295 = 1 := bitsN 1 (by omega)
  have h5 : bits .and .u64 0 4294967295 = 0 := bitsN 0 (by omega)
  have h2 : (n : Int) / 4294967296 = 0 := by omega
  have h3 : IntKind.u64.wrap (n : Int) = (n : Int) := by rw [IntKind.wrap_u64]; omega
  have h6 : IntKind.u64.wrap 0 = 0 := rfl
  go_enter Tryz.func144, Tryz.ntmps144
  go_wp2_with fail
  go_ret2
  exact ⟨rfl, rfl⟩
set_option maxRecDepth 100000 in
theorem mul_any (n : Nat) (hn : n < 1000000) (w : World) :
    Calls Tryz.prog 102 #[.int .u64 1, .int .u64 n] w fun e w' => e = .returned (.tuple #[.int .u64 0, .int .u64 n]) ∧ w = w' := by
  go_enter Tryz.func102, Tryz.ntmps102
  go_wp2_with (go_at_call 144; refine (mul64_any n hn _).mono ?_; rintro e w' ⟨rfl, rfl⟩)
  go_ret2
  exact ⟨rfl, rfl⟩

theorem span_results {F : Func} {r : Nat} (hF : F.results = #[.cell r 71]) {W : World} {b : Nat} {x y : Int} (h : W.heap[b]? = some (.cells #[.int .i64 x, .int .i64 y] 71 (0, 0))) (tmps : Array Value) (hr : tmps.getD r undef = .pointer (some ⟨b, 0, none⟩)) :
    (results F tmps).run Tryz.prog W = .ok (.agg #[.int .i64 x, .int .i64 y]) W := by
  have g4 : tmps[r]?.getD undef = .pointer (some ⟨b, 0, none⟩) := by simpa using hr
  have c0 : W.cell? ⟨b, 0, none⟩ = some (.int .i64 x) := (cell_of_heap h 0).trans rfl
  have c1 : W.cell? ⟨b, 1, none⟩ = some (.int .i64 y) := (cell_of_heap h 1).trans rfl
  simp [results, hF, g4, asAddr, go_sem, c0, c1]
theorem spans_results {F : Func} {r : Nat} (hF : F.results = #[.cell r 219]) {W : World} {b : Nat} {x0 x1 x2 x3 x4 x5 x6 x7 : Int} (h : W.heap[b]? = some (.cells #[.int .i64 x0, .int .i64 x1, .int .i64 x2, .int .i64 x3, .int .i64 x4, .int .i64 x5, .int .i64 x6, .int .i64 x7] 219 (0, 0))) (tmps : Array Value) (hr : tmps.getD r undef = .pointer (some ⟨b, 0, none⟩)) :
    (results F tmps).run Tryz.prog W = .ok (.agg #[.int .i64 x0, .int .i64 x1, .int .i64 x2, .int .i64 x3, .int .i64 x4, .int .i64 x5, .int .i64 x6, .int .i64 x7]) W := by
  have g4 : tmps[r]?.getD undef = .pointer (some ⟨b, 0, none⟩) := by simpa using hr
  have c0 : W.cell? ⟨b, 0, none⟩ = some (.int .i64 x0) := (cell_of_heap h 0).trans rfl
  have c1 : W.cell? ⟨b, 1, none⟩ = some (.int .i64 x1) := (cell_of_heap h 1).trans rfl
  have c2 : W.cell? ⟨b, 2, none⟩ = some (.int .i64 x2) := (cell_of_heap h 2).trans rfl
  have c3 : W.cell? ⟨b, 3, none⟩ = some (.int .i64 x3) := (cell_of_heap h 3).trans rfl
  have c4 : W.cell? ⟨b, 4, none⟩ = some (.int .i64 x4) := (cell_of_heap h 4).trans rfl
  have c5 : W.cell? ⟨b, 5, none⟩ = some (.int .i64 x5) := (cell_of_heap h 5).trans rfl
  have c6 : W.cell? ⟨b, 6, none⟩ = some (.int .i64 x6) := (cell_of_heap h 6).trans rfl
  have c7 : W.cell? ⟨b, 7, none⟩ = some (.int .i64 x7) := (cell_of_heap h 7).trans rfl
  simp [results, hF, g4, asAddr, go_sem, c0, c1, c2, c3, c4, c5, c6, c7]
theorem celA_results {F : Func} {r : Nat} (hF : F.results = #[.cell r 73]) {W : World} {b : Nat} {x0 x1 x2 x3 x4 x5 x6 x7 : Int} (h : W.heap[b]? = some (.cells #[.int .i64 x0, .int .i64 x1, .int .i64 x2, .int .i64 x3, .int .i64 x4, .int .i64 x5, .int .i64 x6, .int .i64 x7] 73 (0, 0))) (tmps : Array Value) (hr : tmps.getD r undef = .pointer (some ⟨b, 0, none⟩)) :
    (results F tmps).run Tryz.prog W = .ok (.agg #[.int .i64 x0, .int .i64 x1, .int .i64 x2, .int .i64 x3, .int .i64 x4, .int .i64 x5, .int .i64 x6, .int .i64 x7]) W := by
  have g4 : tmps[r]?.getD undef = .pointer (some ⟨b, 0, none⟩) := by simpa using hr
  have c0 : W.cell? ⟨b, 0, none⟩ = some (.int .i64 x0) := (cell_of_heap h 0).trans rfl
  have c1 : W.cell? ⟨b, 1, none⟩ = some (.int .i64 x1) := (cell_of_heap h 1).trans rfl
  have c2 : W.cell? ⟨b, 2, none⟩ = some (.int .i64 x2) := (cell_of_heap h 2).trans rfl
  have c3 : W.cell? ⟨b, 3, none⟩ = some (.int .i64 x3) := (cell_of_heap h 3).trans rfl
  have c4 : W.cell? ⟨b, 4, none⟩ = some (.int .i64 x4) := (cell_of_heap h 4).trans rfl
  have c5 : W.cell? ⟨b, 5, none⟩ = some (.int .i64 x5) := (cell_of_heap h 5).trans rfl
  have c6 : W.cell? ⟨b, 6, none⟩ = some (.int .i64 x6) := (cell_of_heap h 6).trans rfl
  have c7 : W.cell? ⟨b, 7, none⟩ = some (.int .i64 x7) := (cell_of_heap h 7).trans rfl
  simp [results, hF, g4, asAddr, go_sem, c0, c1, c2, c3, c4, c5, c6, c7]

def wholeS (k : Nat) : Int × Int := (0, mostN k)
set_option maxRecDepth 100000 in
theorem whole1_any (k : Nat) (hk : k < 4) (w : World) :
    Calls Tryz.prog 181 #[.int .i64 k] w fun e w' => e = .returned (.agg #[.int .i64 (wholeS k).1, .int .i64 (wholeS k).2]) ∧ Below w.heap.size w w' := by
  have h0 := fun w => (most_index w).1.1
  have h1 := fun w => (most_index w).1.2
  have h2 := fun w => (most_index w).2.1
  have h3 := fun w => (most_index w).2.2
  obtain ⟨W, hW⟩ : ∃ W, W = w.alloc (.cells #[.int .i64 0, .int .i64 0] 71) := ⟨_, rfl⟩
  obtain ⟨rb, hrb⟩ : ∃ b, b = w.heap.size := ⟨_, rfl⟩
  have hh : W.heap[rb]? = some (.cells #[.int .i64 0, .int .i64 0] 71 (0, 0)) := by rw [hW, hrb]; exact heap_alloc_new _ _
  have bW : Below w.heap.size w W := by rw [hW]; exact (Below.refl _ _).alloc (Nat.le_refl _) _
  have hrw : w.heap.size ≤ rb := by omega
  have HR := Lib.hid (And.intro hh (And.intro bW hrw))
  clear hh bW hrw
  rcases (by omega : k = 0 ∨ k = 1 ∨ k = 2 ∨ k = 3) with rfl | rfl | rfl | rfl
  · show Calls Tryz.prog 181 #[.int .i64 0] w fun e w' => e = .returned (.agg #[.int .i64 0, .int .i64 100]) ∧ Below w.heap.size w w'
    go_enter Tryz.func181, Tryz.ntmps181
    go_upto_region 1 with fail
    rw [← hW, ← hrb]
    clear hW hrb
    go_wp2_with fail
    refine (most_any _).mono ?_
    rintro e w2 ⟨rfl, b2⟩
    have hh := (b2.block _ (heap_lt HR.out.1)).trans HR.out.1
    have c0 := (cell_of_heap hh 0).trans rfl
    have c1 := (cell_of_heap hh 1).trans rfl
    have f0 := frozen_of_heap hh 0
    have f1 := frozen_of_heap hh 1
    have zo := heap_lt hh
    have H3 := Lib.hid (And.intro hh (HR.out.2.1.trans (b2.mono HR.out.2.1.size)))
    clear hh b2
    go_wp2_with fail
    exact bodyPost_ret (span_results (r := 2) rfl (heap_set (heap_set H3.out.1 0 _) 1 _) _ rfl) rfl ⟨rfl, (H3.out.2.setCell HR.out.2.2 _).setCell HR.out.2.2 _⟩
  · show Calls Tryz.prog 181 #[.int .i64 1] w fun e w' => e = .returned (.agg #[.int .i64 0, .int .i64 400]) ∧ Below w.heap.size w w'
    go_enter Tryz.func181, Tryz.ntmps181
    go_upto_region 1 with fail
    rw [← hW, ← hrb]
    clear hW hrb
    go_wp2_with fail
    refine (most_any _).mono ?_
    rintro e w2 ⟨rfl, b2⟩
    have hh := (b2.block _ (heap_lt HR.out.1)).trans HR.out.1
    have c0 := (cell_of_heap hh 0).trans rfl
    have c1 := (cell_of_heap hh 1).trans rfl
    have f0 := frozen_of_heap hh 0
    have f1 := frozen_of_heap hh 1
    have zo := heap_lt hh
    have H3 := Lib.hid (And.intro hh (HR.out.2.1.trans (b2.mono HR.out.2.1.size)))
    clear hh b2
    go_wp2_with fail
    exact bodyPost_ret (span_results (r := 2) rfl (heap_set (heap_set H3.out.1 0 _) 1 _) _ rfl) rfl ⟨rfl, (H3.out.2.setCell HR.out.2.2 _).setCell HR.out.2.2 _⟩
  · show Calls Tryz.prog 181 #[.int .i64 2] w fun e w' => e = .returned (.agg #[.int .i64 0, .int .i64 100]) ∧ Below w.heap.size w w'
    go_enter Tryz.func181, Tryz.ntmps181
    go_upto_region 1 with fail
    rw [← hW, ← hrb]
    clear hW hrb
    go_wp2_with fail
    refine (most_any _).mono ?_
    rintro e w2 ⟨rfl, b2⟩
    have hh := (b2.block _ (heap_lt HR.out.1)).trans HR.out.1
    have c0 := (cell_of_heap hh 0).trans rfl
    have c1 := (cell_of_heap hh 1).trans rfl
    have f0 := frozen_of_heap hh 0
    have f1 := frozen_of_heap hh 1
    have zo := heap_lt hh
    have H3 := Lib.hid (And.intro hh (HR.out.2.1.trans (b2.mono HR.out.2.1.size)))
    clear hh b2
    go_wp2_with fail
    exact bodyPost_ret (span_results (r := 2) rfl (heap_set (heap_set H3.out.1 0 _) 1 _) _ rfl) rfl ⟨rfl, (H3.out.2.setCell HR.out.2.2 _).setCell HR.out.2.2 _⟩
  · show Calls Tryz.prog 181 #[.int .i64 3] w fun e w' => e = .returned (.agg #[.int .i64 0, .int .i64 3]) ∧ Below w.heap.size w w'
    go_enter Tryz.func181, Tryz.ntmps181
    go_upto_region 1 with fail
    rw [← hW, ← hrb]
    clear hW hrb
    go_wp2_with fail
    refine (most_any _).mono ?_
    rintro e w2 ⟨rfl, b2⟩
    have hh := (b2.block _ (heap_lt HR.out.1)).trans HR.out.1
    have c0 := (cell_of_heap hh 0).trans rfl
    have c1 := (cell_of_heap hh 1).trans rfl
    have f0 := frozen_of_heap hh 0
    have f1 := frozen_of_heap hh 1
    have zo := heap_lt hh
    have H3 := Lib.hid (And.intro hh (HR.out.2.1.trans (b2.mono HR.out.2.1.size)))
    clear hh b2
    go_wp2_with fail
    exact bodyPost_ret (span_results (r := 2) rfl (heap_set (heap_set H3.out.1 0 _) 1 _) _ rfl) rfl ⟨rfl, (H3.out.2.setCell HR.out.2.2 _).setCell HR.out.2.2 _⟩

def eachWA (g : Nat → Int × Int) : Nat → Array Value
  | 0 => #[.int .i64 0, .int .i64 0, .int .i64 0, .int .i64 0, .int .i64 0, .int .i64 0, .int .i64 0, .int .i64 0]
  | 1 => #[.int .i64 (g 0).1, .int .i64 (g 0).2, .int .i64 0, .int .i64 0, .int .i64 0, .int .i64 0, .int .i64 0, .int .i64 0]
  | 2 => #[.int .i64 (g 0).1, .int .i64 (g 0).2, .int .i64 (g 1).1, .int .i64 (g 1).2, .int .i64 0, .int .i64 0, .int .i64 0, .int .i64 0]
  | 3 => #[.int .i64 (g 0).1, .int .i64 (g 0).2, .int .i64 (g 1).1, .int .i64 (g 1).2, .int .i64 (g 2).1, .int .i64 (g 2).2, .int .i64 0, .int .i64 0]
  | _ => #[.int .i64 (g 0).1, .int .i64 (g 0).2, .int .i64 (g 1).1, .int .i64 (g 1).2, .int .i64 (g 2).1, .int .i64 (g 2).2, .int .i64 (g 3).1, .int .i64 (g 3).2]
set_option maxRecDepth 100000 in
set_option maxHeartbeats 2000000 in
theorem eachW  (g : Nat → Int × Int) (w : World) (hg : ∀ k : Nat, k < 4 → ∀ wx, Below w.heap.size w wx → Calls Tryz.prog 181 #[.int .i64 k] wx fun e w' => e = .returned (.agg #[.int .i64 (g k).1, .int .i64 (g k).2]) ∧ Below wx.heap.size wx w') :
    Calls Tryz.prog 180 #[.func (.func 181) #[] #[]] w fun e w' => e = .returned (.agg #[.int .i64 (g 0).1, .int .i64 (g 0).2, .int .i64 (g 1).1, .int .i64 (g 1).2, .int .i64 (g 2).1, .int .i64 (g 2).2, .int .i64 (g 3).1, .int .i64 (g 3).2]) ∧ Below w.heap.size w w' := by
  obtain ⟨W, hW⟩ : ∃ W, W = (w.alloc (.cells #[.int .i64 0, .int .i64 0, .int .i64 0, .int .i64 0, .int .i64 0, .int .i64 0, .int .i64 0, .int .i64 0] 219)).alloc (.cells #[.int .i64 0, .int .i64 0, .int .i64 0, .int .i64 0, .int .i64 0, .int .i64 0, .int .i64 0, .int .i64 0] 219) := ⟨_, rfl⟩
  obtain ⟨rb, hrb⟩ : ∃ b, b = w.heap.size := ⟨_, rfl⟩
  obtain ⟨ob, hob⟩ : ∃ b, b = w.heap.size + 1 := ⟨_, rfl⟩
  have hrh : W.heap[rb]? = some (.cells #[.int .i64 0, .int .i64 0, .int .i64 0, .int .i64 0, .int .i64 0, .int .i64 0, .int .i64 0, .int .i64 0] 219 (0, 0)) := by rw [hW, hrb]; exact heap_alloc' (heap_alloc_new _ _) _
  have hoh : W.heap[ob]? = some (.cells #[.int .i64 0, .int .i64 0, .int .i64 0, .int .i64 0, .int .i64 0, .int .i64 0, .int .i64 0, .int .i64 0] 219 (0, 0)) := by
    rw [hW, hob]
    have := heap_alloc_new (w.alloc (.cells #[.int .i64 0, .int .i64 0, .int .i64 0, .int .i64 0, .int .i64 0, .int .i64 0, .int .i64 0, .int .i64 0] 219)) (.cells #[.int .i64 0, .int .i64 0, .int .i64 0, .int .i64 0, .int .i64 0, .int .i64 0, .int .i64 0, .int .i64 0] 219)
    rwa [World.size_alloc] at this
  have bW : Below w.heap.size w W := by rw [hW]; exact ((Below.refl _ _).alloc (Nat.le_refl _) _).alloc (by simp) _
  have hrw : w.heap.size ≤ rb := by omega
  have how : w.heap.size ≤ ob := by omega
  have hne : rb ≠ ob := by omega
  have HR := Lib.hid (And.intro hrh (And.intro hoh (And.intro bW (And.intro hne hg))))
  clear hrh hoh bW hne hg
  go_enter Tryz.func180, Tryz.ntmps180
  go_upto_region 2 with fail
  rw [← hW, ← hob, ← hrb]
  clear hW hob hrb
  go_wp2_with fail
  go_loopw [5] (fun i wr => ∃ k : Nat, k ≤ 4 ∧ i = .int .i64 k ∧ wr.heap[ob]? = some (.cells (eachWA g k) 219 (0, 0)) ∧ Keep [ob] W wr) (fun i _ => 4 - (Go.RowKit.intOf i).toNat)
  case atStart => exact ⟨0, by omega, rfl, HR.out.2.1, Keep.refl _ _⟩
  case round =>
    obtain ⟨k, hk, rfl, hh, hK⟩ := hrel
    have bw : Below w.heap.size w wr := HR.out.2.2.1.trans (hK.below HR.out.2.2.1.size (by simpa using how))
    have HB := Lib.hid (And.intro hh (And.intro hK bw))
    clear hh hK bw
    rcases (by omega : k = 0 ∨ k = 1 ∨ k = 2 ∨ k = 3 ∨ k = 4) with rfl | rfl | rfl | rfl | rfl
    · have hc := HR.out.2.2.2.2 0 (by omega) wr HB.out.2.2
      obtain ⟨x, y, hxy⟩ : ∃ x y : Int, g 0 = (x, y) := ⟨_, _, rfl⟩
      rw [hxy] at hc
      have HC := Lib.hid (And.intro hc hxy)
      clear hc hxy
      go_wp2_with fail
      refine HC.out.1.mono ?_
      rintro e w2 ⟨rfl, b2⟩
      have hh2 : w2.heap[ob]? = some (.cells #[.int .i64 0, .int .i64 0, .int .i64 0, .int .i64 0, .int .i64 0, .int .i64 0, .int .i64 0, .int .i64 0] 219 (0, 0)) := (b2.block _ (heap_lt HB.out.1)).trans HB.out.1
      have c0 := (cell_of_heap hh2 0).trans rfl
      have c1 := (cell_of_heap hh2 1).trans rfl
      have f0 := frozen_of_heap hh2 0
      have f1 := frozen_of_heap hh2 1
      have zo := heap_lt hh2
      have hh3 : ((w2.setCell ⟨ob, 0, none⟩ (.int .i64 x)).setCell ⟨ob, 1, none⟩ (.int .i64 y)).heap[ob]? = some (.cells (eachWA g 1) 219 (0, 0)) := by
        have := heap_set (heap_set hh2 0 (.int .i64 x)) 1 (.int .i64 y)
        rw [this]
        simp [eachWA, HC.out.2]
      have hK3 : Keep [ob] W ((w2.setCell ⟨ob, 0, none⟩ (.int .i64 x)).setCell ⟨ob, 1, none⟩ (.int .i64 y)) := ((HB.out.2.1.trans (Keep.of_below (S := []) b2) (by simp)).setCell (.inl (by simp)) _).setCell (.inl (by simp)) _
      have H3 := Lib.hid (And.intro hh3 hK3)
      clear hh2 hh3 hK3 b2
      go_wp2_with fail
      go_roundw
      case measure => simp [Go.RowKit.intOf]
      case rel => exact ⟨1, by omega, rfl, H3.out.1, H3.out.2⟩
    · have hc := HR.out.2.2.2.2 1 (by omega) wr HB.out.2.2
      obtain ⟨x, y, hxy⟩ : ∃ x y : Int, g 1 = (x, y) := ⟨_, _, rfl⟩
      rw [hxy] at hc
      have HC := Lib.hid (And.intro hc hxy)
      clear hc hxy
      go_wp2_with fail
      refine HC.out.1.mono ?_
      rintro e w2 ⟨rfl, b2⟩
      have hh2 : w2.heap[ob]? = some (.cells #[.int .i64 (g 0).1, .int .i64 (g 0).2, .int .i64 0, .int .i64 0, .int .i64 0, .int .i64 0, .int .i64 0, .int .i64 0] 219 (0, 0)) := (b2.block _ (heap_lt HB.out.1)).trans HB.out.1
      have c0 := (cell_of_heap hh2 2).trans rfl
      have c1 := (cell_of_heap hh2 3).trans rfl
      have f0 := frozen_of_heap hh2 2
      have f1 := frozen_of_heap hh2 3
      have zo := heap_lt hh2
      have hh3 : ((w2.setCell ⟨ob, 2, none⟩ (.int .i64 x)).setCell ⟨ob, 3, none⟩ (.int .i64 y)).heap[ob]? = some (.cells (eachWA g 2) 219 (0, 0)) := by
        have := heap_set (heap_set hh2 2 (.int .i64 x)) 3 (.int .i64 y)
        rw [this]
        simp [eachWA, HC.out.2]
      have hK3 : Keep [ob] W ((w2.setCell ⟨ob, 2, none⟩ (.int .i64 x)).setCell ⟨ob, 3, none⟩ (.int .i64 y)) := ((HB.out.2.1.trans (Keep.of_below (S := []) b2) (by simp)).setCell (.inl (by simp)) _).setCell (.inl (by simp)) _
      have H3 := Lib.hid (And.intro hh3 hK3)
      clear hh2 hh3 hK3 b2
      go_wp2_with fail
      go_roundw
      case measure => simp [Go.RowKit.intOf]
      case rel => exact ⟨2, by omega, rfl, H3.out.1, H3.out.2⟩
    · have hc := HR.out.2.2.2.2 2 (by omega) wr HB.out.2.2
      obtain ⟨x, y, hxy⟩ : ∃ x y : Int, g 2 = (x, y) := ⟨_, _, rfl⟩
      rw [hxy] at hc
      have HC := Lib.hid (And.intro hc hxy)
      clear hc hxy
      go_wp2_with fail
      refine HC.out.1.mono ?_
      rintro e w2 ⟨rfl, b2⟩
      have hh2 : w2.heap[ob]? = some (.cells #[.int .i64 (g 0).1, .int .i64 (g 0).2, .int .i64 (g 1).1, .int .i64 (g 1).2, .int .i64 0, .int .i64 0, .int .i64 0, .int .i64 0] 219 (0, 0)) := (b2.block _ (heap_lt HB.out.1)).trans HB.out.1
      have c0 := (cell_of_heap hh2 4).trans rfl
      have c1 := (cell_of_heap hh2 5).trans rfl
      have f0 := frozen_of_heap hh2 4
      have f1 := frozen_of_heap hh2 5
      have zo := heap_lt hh2
      have hh3 : ((w2.setCell ⟨ob, 4, none⟩ (.int .i64 x)).setCell ⟨ob, 5, none⟩ (.int .i64 y)).heap[ob]? = some (.cells (eachWA g 3) 219 (0, 0)) := by
        have := heap_set (heap_set hh2 4 (.int .i64 x)) 5 (.int .i64 y)
        rw [this]
        simp [eachWA, HC.out.2]
      have hK3 : Keep [ob] W ((w2.setCell ⟨ob, 4, none⟩ (.int .i64 x)).setCell ⟨ob, 5, none⟩ (.int .i64 y)) := ((HB.out.2.1.trans (Keep.of_below (S := []) b2) (by simp)).setCell (.inl (by simp)) _).setCell (.inl (by simp)) _
      have H3 := Lib.hid (And.intro hh3 hK3)
      clear hh2 hh3 hK3 b2
      go_wp2_with fail
      go_roundw
      case measure => simp [Go.RowKit.intOf]
      case rel => exact ⟨3, by omega, rfl, H3.out.1, H3.out.2⟩
    · have hc := HR.out.2.2.2.2 3 (by omega) wr HB.out.2.2
      obtain ⟨x, y, hxy⟩ : ∃ x y : Int, g 3 = (x, y) := ⟨_, _, rfl⟩
      rw [hxy] at hc
      have HC := Lib.hid (And.intro hc hxy)
      clear hc hxy
      go_wp2_with fail
      refine HC.out.1.mono ?_
      rintro e w2 ⟨rfl, b2⟩
      have hh2 : w2.heap[ob]? = some (.cells #[.int .i64 (g 0).1, .int .i64 (g 0).2, .int .i64 (g 1).1, .int .i64 (g 1).2, .int .i64 (g 2).1, .int .i64 (g 2).2, .int .i64 0, .int .i64 0] 219 (0, 0)) := (b2.block _ (heap_lt HB.out.1)).trans HB.out.1
      have c0 := (cell_of_heap hh2 6).trans rfl
      have c1 := (cell_of_heap hh2 7).trans rfl
      have f0 := frozen_of_heap hh2 6
      have f1 := frozen_of_heap hh2 7
      have zo := heap_lt hh2
      have hh3 : ((w2.setCell ⟨ob, 6, none⟩ (.int .i64 x)).setCell ⟨ob, 7, none⟩ (.int .i64 y)).heap[ob]? = some (.cells (eachWA g 4) 219 (0, 0)) := by
        have := heap_set (heap_set hh2 6 (.int .i64 x)) 7 (.int .i64 y)
        rw [this]
        simp [eachWA, HC.out.2]
      have hK3 : Keep [ob] W ((w2.setCell ⟨ob, 6, none⟩ (.int .i64 x)).setCell ⟨ob, 7, none⟩ (.int .i64 y)) := ((HB.out.2.1.trans (Keep.of_below (S := []) b2) (by simp)).setCell (.inl (by simp)) _).setCell (.inl (by simp)) _
      have H3 := Lib.hid (And.intro hh3 hK3)
      clear hh2 hh3 hK3 b2
      go_wp2_with fail
      go_roundw
      case measure => simp [Go.RowKit.intOf]
      case rel => exact ⟨4, by omega, rfl, H3.out.1, H3.out.2⟩
    · have hh : wr.heap[ob]? = some (.cells #[.int .i64 (g 0).1, .int .i64 (g 0).2, .int .i64 (g 1).1, .int .i64 (g 1).2, .int .i64 (g 2).1, .int .i64 (g 2).2, .int .i64 (g 3).1, .int .i64 (g 3).2] 219 (0, 0)) := HB.out.1
      have hr : wr.heap[rb]? = some (.cells #[.int .i64 0, .int .i64 0, .int .i64 0, .int .i64 0, .int .i64 0, .int .i64 0, .int .i64 0, .int .i64 0] 219 (0, 0)) := (HB.out.2.1.block _ (heap_lt HR.out.1) (by simpa using HR.out.2.2.2.1)).trans HR.out.1
      have c0 := (cell_of_heap hh 0).trans rfl
      have c1 := (cell_of_heap hh 1).trans rfl
      have c2 := (cell_of_heap hh 2).trans rfl
      have c3 := (cell_of_heap hh 3).trans rfl
      have c4 := (cell_of_heap hh 4).trans rfl
      have c5 := (cell_of_heap hh 5).trans rfl
      have c6 := (cell_of_heap hh 6).trans rfl
      have c7 := (cell_of_heap hh 7).trans rfl
      have r0 := (cell_of_heap hr 0).trans rfl
      have f0 := frozen_of_heap hr 0
      have r1 := (cell_of_heap hr 1).trans rfl
      have f1 := frozen_of_heap hr 1
      have r2 := (cell_of_heap hr 2).trans rfl
      have f2 := frozen_of_heap hr 2
      have r3 := (cell_of_heap hr 3).trans rfl
      have f3 := frozen_of_heap hr 3
      have r4 := (cell_of_heap hr 4).trans rfl
      have f4 := frozen_of_heap hr 4
      have r5 := (cell_of_heap hr 5).trans rfl
      have f5 := frozen_of_heap hr 5
      have r6 := (cell_of_heap hr 6).trans rfl
      have f6 := frozen_of_heap hr 6
      have r7 := (cell_of_heap hr 7).trans rfl
      have f7 := frozen_of_heap hr 7
      have zo := heap_lt hh
      have zr := heap_lt hr
      have hfin : ((((((((wr.setCell ⟨rb, 0, none⟩ (.int .i64 (g 0).1)).setCell ⟨rb, 1, none⟩ (.int .i64 (g 0).2)).setCell ⟨rb, 2, none⟩ (.int .i64 (g 1).1)).setCell ⟨rb, 3, none⟩ (.int .i64 (g 1).2)).setCell ⟨rb, 4, none⟩ (.int .i64 (g 2).1)).setCell ⟨rb, 5, none⟩ (.int .i64 (g 2).2)).setCell ⟨rb, 6, none⟩ (.int .i64 (g 3).1)).setCell ⟨rb, 7, none⟩ (.int .i64 (g 3).2)).heap[rb]? = some (.cells #[.int .i64 (g 0).1, .int .i64 (g 0).2, .int .i64 (g 1).1, .int .i64 (g 1).2, .int .i64 (g 2).1, .int .i64 (g 2).2, .int .i64 (g 3).1, .int .i64 (g 3).2] 219 (0, 0)) := (heap_set (heap_set (heap_set (heap_set (heap_set (heap_set (heap_set (heap_set hr 0 (.int .i64 (g 0).1)) 1 (.int .i64 (g 0).2)) 2 (.int .i64 (g 1).1)) 3 (.int .i64 (g 1).2)) 4 (.int .i64 (g 2).1)) 5 (.int .i64 (g 2).2)) 6 (.int .i64 (g 3).1)) 7 (.int .i64 (g 3).2))
      have H3 := Lib.hid (And.intro hfin ((((((((HB.out.2.2.setCell (p := ⟨rb, 0, none⟩) hrw (.int .i64 (g 0).1)).setCell (p := ⟨rb, 1, none⟩) hrw (.int .i64 (g 0).2)).setCell (p := ⟨rb, 2, none⟩) hrw (.int .i64 (g 1).1)).setCell (p := ⟨rb, 3, none⟩) hrw (.int .i64 (g 1).2)).setCell (p := ⟨rb, 4, none⟩) hrw (.int .i64 (g 2).1)).setCell (p := ⟨rb, 5, none⟩) hrw (.int .i64 (g 2).2)).setCell (p := ⟨rb, 6, none⟩) hrw (.int .i64 (g 3).1)).setCell (p := ⟨rb, 7, none⟩) hrw (.int .i64 (g 3).2)))
      clear hh hr hfin
      go_wp2_with fail
      exact bodyPost_ret (spans_results (r := 2) rfl H3.out.1 _ rfl) rfl ⟨rfl, H3.out.2⟩

end Go.Proofs.YtaokegobilphnaaGreatDoor
/- ice: whole, cell, Whole -/
namespace Go.Proofs.YtaokegobilphnaaGreatDoor
open Go Go.RowKit Go.Lib Sp
set_option linter.unusedVariables false

def celW : Cel := ⟨0, 100, 0, 400, 0, 100, 0, 3⟩
set_option maxRecDepth 100000 in
theorem whole_any (w : World) :
    Calls Tryz.prog 172 #[] w fun e w' => e = .returned (.agg #[.int .i64 0, .int .i64 100, .int .i64 0, .int .i64 400, .int .i64 0, .int .i64 100, .int .i64 0, .int .i64 3]) ∧ Below w.heap.size w w' := by
  have h0 : ∀ wx, Calls Tryz.prog 180 #[.func (.func 181) #[] #[]] wx fun e w' => e = .returned (.agg #[.int .i64 0, .int .i64 100, .int .i64 0, .int .i64 400, .int .i64 0, .int .i64 100, .int .i64 0, .int .i64 3]) ∧ Below wx.heap.size wx w' := fun wx => eachW wholeS wx (fun (k : Nat) hk wy _ => whole1_any k hk wy)
  have H := Lib.hid h0
  clear h0
  obtain ⟨W, hW⟩ : ∃ W, W = w.alloc (.cells #[.int .i64 0, .int .i64 0, .int .i64 0, .int .i64 0, .int .i64 0, .int .i64 0, .int .i64 0, .int .i64 0] 219) := ⟨_, rfl⟩
  obtain ⟨rb, hrb⟩ : ∃ b, b = w.heap.size := ⟨_, rfl⟩
  have hh : W.heap[rb]? = some (.cells #[.int .i64 0, .int .i64 0, .int .i64 0, .int .i64 0, .int .i64 0, .int .i64 0, .int .i64 0, .int .i64 0] 219 (0, 0)) := by rw [hW, hrb]; exact heap_alloc_new _ _
  have bW : Below w.heap.size w W := by rw [hW]; exact (Below.refl _ _).alloc (Nat.le_refl _) _
  have hrw : w.heap.size ≤ rb := by omega
  have HR := Lib.hid (And.intro hh (And.intro bW hrw))
  clear hh bW hrw
  go_enter Tryz.func172, Tryz.ntmps172
  go_upto_region 1 with fail
  rw [← hW, ← hrb]
  clear hW hrb
  go_wp2_with fail
  refine (H.out _).mono ?_
  rintro e w2 ⟨rfl, b2⟩
  have hh := (b2.block _ (heap_lt HR.out.1)).trans HR.out.1
  have c0 := (cell_of_heap hh 0).trans rfl
  have c1 := (cell_of_heap hh 1).trans rfl
  have c2 := (cell_of_heap hh 2).trans rfl
  have c3 := (cell_of_heap hh 3).trans rfl
  have c4 := (cell_of_heap hh 4).trans rfl
  have c5 := (cell_of_heap hh 5).trans rfl
  have c6 := (cell_of_heap hh 6).trans rfl
  have c7 := (cell_of_heap hh 7).trans rfl
  have f0 := frozen_of_heap hh 0
  have f1 := frozen_of_heap hh 1
  have f2 := frozen_of_heap hh 2
  have f3 := frozen_of_heap hh 3
  have f4 := frozen_of_heap hh 4
  have f5 := frozen_of_heap hh 5
  have f6 := frozen_of_heap hh 6
  have f7 := frozen_of_heap hh 7
  have zo := heap_lt hh
  have hfin : ((((((((w2.setCell ⟨rb, 0, none⟩ (.int .i64 0)).setCell ⟨rb, 1, none⟩ (.int .i64 100)).setCell ⟨rb, 2, none⟩ (.int .i64 0)).setCell ⟨rb, 3, none⟩ (.int .i64 400)).setCell ⟨rb, 4, none⟩ (.int .i64 0)).setCell ⟨rb, 5, none⟩ (.int .i64 100)).setCell ⟨rb, 6, none⟩ (.int .i64 0)).setCell ⟨rb, 7, none⟩ (.int .i64 3)).heap[rb]? = some (.cells #[.int .i64 0, .int .i64 100, .int .i64 0, .int .i64 400, .int .i64 0, .int .i64 100, .int .i64 0, .int .i64 3] 219 (0, 0)) := (heap_set (heap_set (heap_set (heap_set (heap_set (heap_set (heap_set (heap_set hh 0 (.int .i64 0)) 1 (.int .i64 100)) 2 (.int .i64 0)) 3 (.int .i64 400)) 4 (.int .i64 0)) 5 (.int .i64 100)) 6 (.int .i64 0)) 7 (.int .i64 3))
  have H3 := Lib.hid (And.intro hfin (((((((((HR.out.2.1.trans (b2.mono HR.out.2.1.size)).setCell (p := ⟨rb, 0, none⟩) HR.out.2.2 (.int .i64 0)).setCell (p := ⟨rb, 1, none⟩) HR.out.2.2 (.int .i64 100)).setCell (p := ⟨rb, 2, none⟩) HR.out.2.2 (.int .i64 0)).setCell (p := ⟨rb, 3, none⟩) HR.out.2.2 (.int .i64 400)).setCell (p := ⟨rb, 4, none⟩) HR.out.2.2 (.int .i64 0)).setCell (p := ⟨rb, 5, none⟩) HR.out.2.2 (.int .i64 100)).setCell (p := ⟨rb, 6, none⟩) HR.out.2.2 (.int .i64 0)).setCell (p := ⟨rb, 7, none⟩) HR.out.2.2 (.int .i64 3)))
  clear hfin
  clear hh b2
  go_wp2_with fail
  exact bodyPost_ret (spans_results (r := 0) rfl H3.out.1 _ rfl) rfl ⟨rfl, H3.out.2⟩

set_option maxRecDepth 100000 in
theorem cell_any (x : Cel) (w : World) :
    Calls Tryz.prog 173 #[.agg (celA x)] w fun e w' => e = .returned (.agg (celA x)) ∧ Below w.heap.size w w' := by
  go_enter Tryz.func173, Tryz.ntmps173
  go_wp2_with fail
  exact bodyPost_ret (v := .agg (celA x)) (by simp [results, Tryz.results173, go_sem]) rfl ⟨rfl, ((Below.refl _ _).alloc (Nat.le_refl _) _).alloc (by simp) _⟩
set_option maxRecDepth 100000 in
theorem Whole_any (w : World) :
    Calls Tryz.prog 160 #[] w fun e w' => e = .returned (.agg #[.int .i64 0, .int .i64 100, .int .i64 0, .int .i64 400, .int .i64 0, .int .i64 100, .int .i64 0, .int .i64 3]) ∧ Below w.heap.size w w' := by
  have h0 : ∀ wx, Calls Tryz.prog 173 #[.agg #[.int .i64 0, .int .i64 100, .int .i64 0, .int .i64 400, .int .i64 0, .int .i64 100, .int .i64 0, .int .i64 3]] wx fun e w' => e = .returned (.agg #[.int .i64 0, .int .i64 100, .int .i64 0, .int .i64 400, .int .i64 0, .int .i64 100, .int .i64 0, .int .i64 3]) ∧ Below wx.heap.size wx w' := fun wx => cell_any celW wx
  have H := Lib.hid h0
  clear h0
  obtain ⟨W, hW⟩ : ∃ W, W = w.alloc (.cells #[.int .i64 0, .int .i64 0, .int .i64 0, .int .i64 0, .int .i64 0, .int .i64 0, .int .i64 0, .int .i64 0] 73) := ⟨_, rfl⟩
  obtain ⟨rb, hrb⟩ : ∃ b, b = w.heap.size := ⟨_, rfl⟩
  have hh : W.heap[rb]? = some (.cells #[.int .i64 0, .int .i64 0, .int .i64 0, .int .i64 0, .int .i64 0, .int .i64 0, .int .i64 0, .int .i64 0] 73 (0, 0)) := by rw [hW, hrb]; exact heap_alloc_new _ _
  have bW : Below w.heap.size w W := by rw [hW]; exact (Below.refl _ _).alloc (Nat.le_refl _) _
  have hrw : w.heap.size ≤ rb := by omega
  have HR := Lib.hid (And.intro hh (And.intro bW hrw))
  clear hh bW hrw
  go_enter Tryz.func160, Tryz.ntmps160
  go_upto_region 1 with fail
  rw [← hW, ← hrb]
  clear hW hrb
  go_wp2_with fail
  refine (whole_any _).mono ?_
  rintro e w1 ⟨rfl, b1⟩
  go_wp2_with fail
  refine (H.out _).mono ?_
  rintro e w2 ⟨rfl, b2⟩
  have b12 := b1.trans (b2.mono b1.size)
  have hh := (b12.block _ (heap_lt HR.out.1)).trans HR.out.1
  have c0 := (cell_of_heap hh 0).trans rfl
  have c1 := (cell_of_heap hh 1).trans rfl
  have c2 := (cell_of_heap hh 2).trans rfl
  have c3 := (cell_of_heap hh 3).trans rfl
  have c4 := (cell_of_heap hh 4).trans rfl
  have c5 := (cell_of_heap hh 5).trans rfl
  have c6 := (cell_of_heap hh 6).trans rfl
  have c7 := (cell_of_heap hh 7).trans rfl
  have f0 := frozen_of_heap hh 0
  have f1 := frozen_of_heap hh 1
  have f2 := frozen_of_heap hh 2
  have f3 := frozen_of_heap hh 3
  have f4 := frozen_of_heap hh 4
  have f5 := frozen_of_heap hh 5
  have f6 := frozen_of_heap hh 6
  have f7 := frozen_of_heap hh 7
  have zo := heap_lt hh
  have hfin : ((((((((w2.setCell ⟨rb, 0, none⟩ (.int .i64 0)).setCell ⟨rb, 1, none⟩ (.int .i64 100)).setCell ⟨rb, 2, none⟩ (.int .i64 0)).setCell ⟨rb, 3, none⟩ (.int .i64 400)).setCell ⟨rb, 4, none⟩ (.int .i64 0)).setCell ⟨rb, 5, none⟩ (.int .i64 100)).setCell ⟨rb, 6, none⟩ (.int .i64 0)).setCell ⟨rb, 7, none⟩ (.int .i64 3)).heap[rb]? = some (.cells #[.int .i64 0, .int .i64 100, .int .i64 0, .int .i64 400, .int .i64 0, .int .i64 100, .int .i64 0, .int .i64 3] 73 (0, 0)) := (heap_set (heap_set (heap_set (heap_set (heap_set (heap_set (heap_set (heap_set hh 0 (.int .i64 0)) 1 (.int .i64 100)) 2 (.int .i64 0)) 3 (.int .i64 400)) 4 (.int .i64 0)) 5 (.int .i64 100)) 6 (.int .i64 0)) 7 (.int .i64 3))
  have H3 := Lib.hid (And.intro hfin (((((((((HR.out.2.1.trans (b12.mono HR.out.2.1.size)).setCell (p := ⟨rb, 0, none⟩) HR.out.2.2 (.int .i64 0)).setCell (p := ⟨rb, 1, none⟩) HR.out.2.2 (.int .i64 100)).setCell (p := ⟨rb, 2, none⟩) HR.out.2.2 (.int .i64 0)).setCell (p := ⟨rb, 3, none⟩) HR.out.2.2 (.int .i64 400)).setCell (p := ⟨rb, 4, none⟩) HR.out.2.2 (.int .i64 0)).setCell (p := ⟨rb, 5, none⟩) HR.out.2.2 (.int .i64 100)).setCell (p := ⟨rb, 6, none⟩) HR.out.2.2 (.int .i64 0)).setCell (p := ⟨rb, 7, none⟩) HR.out.2.2 (.int .i64 3)))
  clear hfin
  clear hh b12 b1 b2
  go_wp2_with fail
  exact bodyPost_ret (celA_results (r := 0) rfl H3.out.1 _ rfl) rfl ⟨rfl, H3.out.2⟩
end Go.Proofs.YtaokegobilphnaaGreatDoor
/- log.cell -/
namespace Go.Proofs.YtaokegobilphnaaGreatDoor
open Go Go.RowKit Go.Shelf Go.Proofs Sp Lg
set_option linter.unusedVariables false
set_option linter.unusedSimpArgs false

set_option maxRecDepth 100000 in
set_option maxHeartbeats 4000000 in
theorem cell1_any (pb k : Nat) (A : Option Addr) (c : Nat) (l : List Int) (w : World) (hk : k + 1 < 8) (hl : l.length = 8) (hp : w.heap[pb]? = some (.cells #[.slice A 8 c] 24 (0, 0))) (hr : Rd w 1 A 8 (ints l)) :
    Calls Tryz.prog 161 #[.int .i64 k, .pointer (some ⟨pb, 0, none⟩)] w fun e w' => e = .returned (.agg #[.int .i64 (l.getD k 0), .int .i64 (l.getD (k + 1) 0)]) ∧ Below w.heap.size w w' := by
  obtain ⟨b, off, rfl, hb, hc⟩ := hr.2 (by omega)
  obtain ⟨x, hx⟩ : ∃ x, x = l.getD k 0 := ⟨_, rfl⟩
  obtain ⟨y, hy⟩ : ∃ x, x = l.getD (k + 1) 0 := ⟨_, rfl⟩
  obtain ⟨W1, hW1⟩ : ∃ W, W = w.alloc (.cells #[.int .i64 0, .int .i64 0] 71) := ⟨_, rfl⟩
  obtain ⟨rb, hrb⟩ : ∃ b, b = w.heap.size := ⟨_, rfl⟩
  have hh : W1.heap[rb]? = some (.cells #[.int .i64 0, .int .i64 0] 71 (0, 0)) := by rw [hW1, hrb]; exact heap_alloc_new _ _
  have b1 : Below w.heap.size w W1 := by rw [hW1]; exact (Below.refl _ _).alloc (Nat.le_refl _) _
  have e0 : W1.cell? ⟨b, off + k, none⟩ = some (.int .i64 x) := (b1.cell hb).trans (hc k _ (by rw [hx]; simp [ints, show k < l.length by omega]))
  have e1 : W1.cell? ⟨b, off + (k + 1), none⟩ = some (.int .i64 y) := (b1.cell hb).trans (hc (k + 1) _ (by rw [hy]; simp [ints, show k + 1 < l.length by omega]))
  have p0 := ((b1.block pb (heap_lt hp)).trans hp)
  have q0 := (cell_of_heap p0 0).trans rfl
  have zp := heap_lt p0
  have zb := Nat.lt_of_lt_of_le hb b1.size
  have c0 := (cell_of_heap hh 0).trans rfl
  have c1 := (cell_of_heap hh 1).trans rfl
  have f0 := frozen_of_heap hh 0
  have f1 := frozen_of_heap hh 1
  have zo := heap_lt hh
  have hrw : w.heap.size ≤ rb := by omega
  obtain ⟨j, hj⟩ : ∃ j, j = k + 1 := ⟨_, rfl⟩
  have hij : (k : Int) + 1 = (j : Int) := by omega
  have hwj : IntKind.i64.wrap (j : Int) = (j : Int) := IntWalk.i64_in _ (by omega)
  have g1 : k < 8 := by omega
  have g2 : j < 8 := by omega
  have g3 : (0 : Int) ≤ (k : Int) ∧ (k : Int) < 8 := by omega
  have g4 : (0 : Int) ≤ (j : Int) ∧ (j : Int) < 8 := by omega
  rw [← hj] at e1
  rw [← hx, ← hy]
  have H := Lib.hid (And.intro hh (And.intro b1 (And.intro hrw (And.intro hj (And.intro hx hy)))))
  clear hh b1 hrw hj hx hy p0 hp hr hc hk hl
  go_enter Tryz.func161, Tryz.ntmps161
  go_upto_region 1 with fail
  rw [← hW1, ← hrb]
  clear hW1 hrb
  go_region
  go_wp2_with fail
  have hfin : (((W1.setCell ⟨rb, 0, none⟩ (.int .i64 x)).setCell ⟨rb, 1, none⟩ (.int .i64 y)).drew).heap[rb]? = some (.cells #[.int .i64 x, .int .i64 y] 71 (0, 0)) := heap_set (heap_set H.out.1 0 _) 1 _
  exact bodyPost_ret (span_results (r := 3) rfl hfin _ rfl) rfl ⟨rfl, (((H.out.2.1).setCell H.out.2.2.1 _).setCell H.out.2.2.1 _).drew⟩
set_option maxRecDepth 100000 in
set_option maxHeartbeats 4000000 in
theorem gCell_any (x : Cel) (A : Option Addr) (c : Nat) (w : World) (hr : Rd w 1 A 8 (ints (celI x))) :
    Calls Tryz.prog 137 #[.slice A 8 c] w fun e w' => e = .returned (.agg (celA x)) ∧ Below w.heap.size w w' := by
  obtain ⟨a0, a1, b0, b1, c0, c1, d0, d1⟩ := x
  obtain ⟨pb, hpb⟩ : ∃ b, b = w.heap.size := ⟨_, rfl⟩
  obtain ⟨rb, hrb⟩ : ∃ b, b = pb + 1 := ⟨_, rfl⟩
  obtain ⟨W1, hW1⟩ : ∃ W, W = (w.alloc (.cells #[.slice A 8 c] 24)).alloc (.cells #[.int .i64 0, .int .i64 0, .int .i64 0, .int .i64 0, .int .i64 0, .int .i64 0, .int .i64 0, .int .i64 0] 73) := ⟨_, rfl⟩
  have hp : W1.heap[pb]? = some (.cells #[.slice A 8 c] 24 (0, 0)) := by rw [hW1, hpb]; exact heap_alloc' (heap_alloc_new _ _) _
  have hh : W1.heap[rb]? = some (.cells #[.int .i64 0, .int .i64 0, .int .i64 0, .int .i64 0, .int .i64 0, .int .i64 0, .int .i64 0, .int .i64 0] 73 (0, 0)) := by
    rw [hW1, hrb, hpb]
    have := heap_alloc_new (w.alloc (.cells #[.slice A 8 c] 24)) (.cells #[.int .i64 0, .int .i64 0, .int .i64 0, .int .i64 0, .int .i64 0, .int .i64 0, .int .i64 0, .int .i64 0] 73)
    rwa [World.size_alloc] at this
  have bW : Below w.heap.size w W1 := by rw [hW1]; exact ((Below.refl _ _).alloc (Nat.le_refl _) _).alloc (by simp) _
  have hrw : w.heap.size ≤ rb := by omega
  have k1 : ∀ (k : Nat) (W : World), k + 1 < 8 → Below W1.heap.size W1 W → Calls Tryz.prog 161 #[.int .i64 k, .pointer (some ⟨pb, 0, none⟩)] W fun e w' => e = .returned (.agg #[.int .i64 ((celI ⟨a0, a1, b0, b1, c0, c1, d0, d1⟩).getD k 0), .int .i64 ((celI ⟨a0, a1, b0, b1, c0, c1, d0, d1⟩).getD (k + 1) 0)]) ∧ Below W1.heap.size W1 w' := fun k W hk hW =>
    (cell1_any pb k A c _ W hk rfl ((hW.block pb (heap_lt hp)).trans hp) ((hr.below bW).below hW)).mono fun e w' h => ⟨h.1, hW.trans (h.2.mono hW.size)⟩
  have m0 : ∀ W, Below W1.heap.size W1 W → Calls Tryz.prog 161 #[.int .i64 0, .pointer (some ⟨pb, 0, none⟩)] W fun e w' => e = .returned (.agg #[.int .i64 a0, .int .i64 a1]) ∧ Below W1.heap.size W1 w' := fun W h => by
    have := k1 0 W (by omega) h
    simpa [celI] using this
  have m2 : ∀ W, Below W1.heap.size W1 W → Calls Tryz.prog 161 #[.int .i64 2, .pointer (some ⟨pb, 0, none⟩)] W fun e w' => e = .returned (.agg #[.int .i64 b0, .int .i64 b1]) ∧ Below W1.heap.size W1 w' := fun W h => by
    have := k1 2 W (by omega) h
    simpa [celI] using this
  have m4 : ∀ W, Below W1.heap.size W1 W → Calls Tryz.prog 161 #[.int .i64 4, .pointer (some ⟨pb, 0, none⟩)] W fun e w' => e = .returned (.agg #[.int .i64 c0, .int .i64 c1]) ∧ Below W1.heap.size W1 w' := fun W h => by
    have := k1 4 W (by omega) h
    simpa [celI] using this
  have m6 : ∀ W, Below W1.heap.size W1 W → Calls Tryz.prog 161 #[.int .i64 6, .pointer (some ⟨pb, 0, none⟩)] W fun e w' => e = .returned (.agg #[.int .i64 d0, .int .i64 d1]) ∧ Below W1.heap.size W1 w' := fun W h => by
    have := k1 6 W (by omega) h
    simpa [celI] using this
  have H := Lib.hid (And.intro m0 (And.intro m2 (And.intro m4 (And.intro m6 (And.intro hh (And.intro bW hrw))))))
  clear m0 m2 m4 m6 hh bW hrw k1 hp hr
  have hmf : ∀ (fn : Fn) (first cap : Array Value) (w : World), (Instr.makeFunc fn first cap).run Tryz.prog w = .ok (.func fn first cap) w := fun _ _ _ _ => rfl
  go_enter Tryz.func137, Tryz.ntmps137
  go_upto_region 1 with fail
  rw [← hW1, ← hpb, ← hrb]
  clear hW1 hpb hrb
  have T1 := Lib.hid True.intro
  have T2 := Lib.hid True.intro
  have T3 := Lib.hid True.intro
  go_wp2_with (first
    | (go_at_call 161; clear T1; refine (H.out.1 W1 (Below.refl _ _)).mono ?_; rintro e w2 ⟨rfl, x2⟩; have B2 := Lib.hid x2; clear x2)
    | (go_at_call 161; clear T2; refine (H.out.2.1 _ B2.out).mono ?_; rintro e w3 ⟨rfl, x2⟩; have B3 := Lib.hid x2; clear x2 B2)
    | (go_at_call 161; clear T3; refine (H.out.2.2.1 _ B3.out).mono ?_; rintro e w4 ⟨rfl, x2⟩; have B4 := Lib.hid x2; clear x2 B3)
    | (go_at_call 161; refine (H.out.2.2.2.1 _ B4.out).mono ?_; rintro e w5 ⟨rfl, x2⟩; have hh5 := (x2.block _ (heap_lt H.out.2.2.2.2.1)).trans H.out.2.2.2.2.1; have y0 := (cell_of_heap hh5 0).trans rfl; have y1 := (cell_of_heap hh5 1).trans rfl; have y2 := (cell_of_heap hh5 2).trans rfl; have y3 := (cell_of_heap hh5 3).trans rfl; have y4 := (cell_of_heap hh5 4).trans rfl; have y5 := (cell_of_heap hh5 5).trans rfl; have y6 := (cell_of_heap hh5 6).trans rfl; have y7 := (cell_of_heap hh5 7).trans rfl; have f0 := frozen_of_heap hh5 0; have f1 := frozen_of_heap hh5 1; have f2 := frozen_of_heap hh5 2; have f3 := frozen_of_heap hh5 3; have f4 := frozen_of_heap hh5 4; have f5 := frozen_of_heap hh5 5; have f6 := frozen_of_heap hh5 6; have f7 := frozen_of_heap hh5 7; have zo := heap_lt hh5; have B5 := Lib.hid (And.intro x2 hh5); clear x2 hh5 B4))
  have hfin := (heap_set (heap_set (heap_set (heap_set (heap_set (heap_set (heap_set (heap_set B5.out.2 0 (.int .i64 a0)) 1 (.int .i64 a1)) 2 (.int .i64 b0)) 3 (.int .i64 b1)) 4 (.int .i64 c0)) 5 (.int .i64 c1)) 6 (.int .i64 d0)) 7 (.int .i64 d1))
  exact bodyPost_ret (celA_results (r := 2) rfl hfin _ rfl) rfl ⟨rfl, (((((((((H.out.2.2.2.2.2.1.trans (B5.out.1.mono H.out.2.2.2.2.2.1.size)).setCell (p := ⟨rb, 0, none⟩) H.out.2.2.2.2.2.2 (.int .i64 a0)).setCell (p := ⟨rb, 1, none⟩) H.out.2.2.2.2.2.2 (.int .i64 a1)).setCell (p := ⟨rb, 2, none⟩) H.out.2.2.2.2.2.2 (.int .i64 b0)).setCell (p := ⟨rb, 3, none⟩) H.out.2.2.2.2.2.2 (.int .i64 b1)).setCell (p := ⟨rb, 4, none⟩) H.out.2.2.2.2.2.2 (.int .i64 c0)).setCell (p := ⟨rb, 5, none⟩) H.out.2.2.2.2.2.2 (.int .i64 c1)).setCell (p := ⟨rb, 6, none⟩) H.out.2.2.2.2.2.2 (.int .i64 d0)).setCell (p := ⟨rb, 7, none⟩) H.out.2.2.2.2.2.2 (.int .i64 d1))⟩
end Go.Proofs.YtaokegobilphnaaGreatDoor
/- copy of elements of several cells, within one block; what a block holds that repeats one element. No program is named here. -/
namespace Go.Proofs.YtaokegobilphnaaGreatDoor
open Go Go.RowKit
set_option linter.unusedVariables false
variable {P : Program}

theorem heap_setCells {g : Nat} {t : TypeId} {fr : Nat × Nat} : ∀ (vs : List Value) (o : Nat) (w : World) (cur : Array Value), w.heap[g]? = some (.cells cur t fr) → o + vs.length ≤ cur.size →
    ∃ cur' : Array Value, (w.setCells g o vs).heap[g]? = some (.cells cur' t fr) ∧ cur'.size = cur.size ∧ (∀ j, j < vs.length → cur'[o + j]? = vs[j]?) ∧ (∀ j, j < o ∨ o + vs.length ≤ j → cur'[j]? = cur[j]?)
  | [], o, w, cur, h, _ => ⟨cur, h, rfl, fun j hj => by simp at hj, fun _ _ => rfl⟩
  | v :: r, o, w, cur, h, hl => by
    obtain ⟨cur', h1, h2, h3, h4⟩ := heap_setCells r (o + 1) (w.setCell ⟨g, o, none⟩ v) (cur.setIfInBounds o v) (heap_set h o v) (by simp at hl ⊢; omega)
    simp only [List.length_cons] at hl ⊢
    refine ⟨cur', h1, by rw [h2]; simp, fun j hj => ?_, fun j hj => ?_⟩
    · cases j with
      | zero =>
        rw [h4 _ (by omega), Nat.add_zero, Array.getElem?_setIfInBounds_self_of_lt (by omega)]; rfl
      | succ j =>
        have := h3 j (by omega)
        rw [show o + (j + 1) = o + 1 + j from by omega, this]; rfl
    · rw [h4 j (by omega), Array.getElem?_setIfInBounds_ne (by omega)]
theorem Keep.setCells {S : List Nat} {w w' : World} (h : Keep S w w') {g : Nat} (hg : g ∈ S ∨ w.heap.size ≤ g) : ∀ (vs : List Value) (o : Nat), Keep S w (w'.setCells g o vs)
  | [], _ => h
  | v :: r, o => by
    rw [World.setCells]
    exact Keep.setCells (w' := w'.setCell ⟨g, o, none⟩ v) (h.setCell hg v) hg r (o + 1)

theorem run_copy_N (w : World) (dT sT ty elem : TypeId) (size b o dLen dCap : Nat) (a : Addr) (sLen sCap : Nat) (cs : List Value)
    (hu : P.underlying dT = some (.slice elem)) (hs : (P.info? elem).map (·.size) = some size) (hn : cs.length = Nat.min sLen dLen * size)
    (hsrc : ∀ j v, cs[j]? = some v → w.cell? (a.add j) = some v) (hc : ∀ j, j < cs.length → (w.cell? ⟨b, o + j, none⟩).isSome = true) (hf : ∀ j, j < cs.length → w.frozen? ⟨b, o + j, none⟩ = false) (h1 : ∀ v ∈ cs, v.oneCell' = true) :
    (Builtin.copy_ #[dT, sT] ty #[.slice (some ⟨b, o, none⟩) dLen dCap, .slice (some a) sLen sCap]).run P w = .ok (goInt (Nat.min sLen dLen)) (w.setCells b o cs) := by
  have hl := run_loadCells_list (P := P) w a cs hsrc
  have hst := run_storeCells_cells (P := P) b o cs 0 w (by simpa using hc) (by simpa using hf) h1
  cases hq : P.info? elem with
  | none => simp [hq] at hs
  | some i =>
    have hi : i.size = size := by simpa [hq] using hs
    simp [Builtin.copy_, run_underlying hu, Builtin.lenOf, Builtin.firstCells, sizeOf, typeInfo, hq, hi, ← hn, hl, hst]

/-- the first n elements of the block are the one whose cells are ys -/
def RepSt (ys : List Value) (n len : Nat) (cur : Array Value) : Prop := cur.size = len * ys.length ∧ ∀ j, j < n * ys.length → cur[j]? = ys[j % ys.length]?

/-- a copy of the first m elements behind the first n -/
theorem rep_copy {w : World} {dT sT ty elem : TypeId} {g n m len dCap sCap : Nat} {ys : List Value} {cur : Array Value} {t : TypeId}
    (hu : P.underlying dT = some (.slice elem)) (hs : (P.info? elem).map (·.size) = some ys.length) (hy : 0 < ys.length) (h1 : ∀ v ∈ ys, v.oneCell' = true)
    (hh : w.heap[g]? = some (.cells cur t (0, 0))) (hR : RepSt ys n len cur) (hn : n ≤ len) (hm : m = min n (len - n)) :
    ∃ w', (Builtin.copy_ #[dT, sT] ty #[.slice (some ⟨g, n * ys.length, none⟩) (len - n) dCap, .slice (some ⟨g, 0, none⟩) n sCap]).run P w = .ok (goInt m) w' ∧
      (∃ cur', w'.heap[g]? = some (.cells cur' t (0, 0)) ∧ RepSt ys (n + m) len cur') ∧ Keep [g] w w' ∧ w'.heap.size = w.heap.size := by
  obtain ⟨hz, hv⟩ := hR
  have hmn : m ≤ n := by omega
  have hms : n * ys.length + m * ys.length ≤ len * ys.length := by rw [← Nat.add_mul]; exact Nat.mul_le_mul_right _ (by omega)
  have hmn' : m * ys.length ≤ n * ys.length := Nat.mul_le_mul_right _ hmn
  have hlen : ((List.range (m * ys.length)).map fun j => ys.getD (j % ys.length) undef).length = m * ys.length := by simp
  obtain ⟨cs, hcs⟩ : ∃ cs : List Value, cs = (List.range (m * ys.length)).map fun j => ys.getD (j % ys.length) undef := ⟨_, rfl⟩
  have hcl : cs.length = m * ys.length := by rw [hcs]; exact hlen
  have hcg : ∀ j, j < m * ys.length → cs[j]? = ys[j % ys.length]? := fun j hj => by
    have hlt : j % ys.length < ys.length := Nat.mod_lt _ hy
    rw [hcs, List.getElem?_map, List.getElem?_range hj, List.getElem?_eq_getElem hlt]
    simp [List.getD_eq_getElem?_getD, List.getElem?_eq_getElem hlt]
  have hc := cell_of_heap hh
  obtain ⟨cur', e1, e2, e3, e4⟩ := heap_setCells cs (n * ys.length) w cur hh (by omega)
  refine ⟨w.setCells g (n * ys.length) cs, ?_, ⟨cur', e1, ?_⟩, (Keep.refl _ _).setCells (.inl (by simp)) _ _, ?_⟩
  · have hmin : Nat.min n (len - n) = m := hm.symm
    have := run_copy_N (P := P) w dT sT ty elem ys.length g (n * ys.length) (len - n) dCap ⟨g, 0, none⟩ n sCap cs hu hs (by rw [hcl, hmin])
      (fun j v hj => by
        have hjl : j < m * ys.length := by rw [← hcl]; exact (List.getElem?_eq_some_iff.1 hj).1
        rw [show (⟨g, 0, none⟩ : Addr).add j = ⟨g, j, none⟩ from by simp [Addr.add]; omega, hc, hv j (by omega), ← hcg j hjl]; exact hj)
      (fun j hj => by
        rw [hc, Array.getElem?_eq_getElem (by omega)]; rfl)
      (fun j hj => frozen_of_heap hh _)
      (fun v hv' => by
        obtain ⟨j, hj, rfl⟩ := List.mem_iff_getElem.1 hv'
        have hjm : j < m * ys.length := by omega
        have hlt : j % ys.length < ys.length := Nat.mod_lt _ hy
        have := hcg j hjm
        rw [List.getElem?_eq_getElem hj, List.getElem?_eq_getElem hlt] at this
        injection this with this
        rw [this]
        exact h1 _ (List.getElem_mem hlt))
    rw [hmin] at this
    exact this
  · refine ⟨by rw [e2, hz], fun j hj => ?_⟩
    rw [Nat.add_mul] at hj
    by_cases h : j < n * ys.length
    · rw [e4 j (.inl h), hv j h]
    · have := e3 (j - n * ys.length) (by omega)
      rw [show n * ys.length + (j - n * ys.length) = j from by omega] at this
      rw [this, hcg _ (by omega)]
      have e : (j - n * ys.length) % ys.length = j % ys.length := by
        conv => rhs; rw [show j = (j - n * ys.length) + n * ys.length from by omega]
        rw [Nat.add_mul_mod_self_right]
      rw [e]
  · have : ∀ (vs : List Value) (o : Nat) (w : World), (w.setCells g o vs).heap.size = w.heap.size := by
      intro vs
      induction vs with
      | nil => intro _ _; rfl
      | cons v r ih => intro o w; rw [World.setCells, ih]; simp [World.setCell]
    exact this _ _ _
/-- the first copy: one element -/
theorem rep_first {w : World} {dT sT ty elem : TypeId} {g len dCap sCap : Nat} {ad : Addr} {ys : List Value} {cur : Array Value} {t : TypeId}
    (hu : P.underlying dT = some (.slice elem)) (hs : (P.info? elem).map (·.size) = some ys.length) (hy : 0 < ys.length) (h1 : ∀ v ∈ ys, v.oneCell' = true)
    (hh : w.heap[g]? = some (.cells cur t (0, 0))) (hz : cur.size = len * ys.length) (hl : 0 < len) (hsrc : ∀ j v, ys[j]? = some v → w.cell? (ad.add j) = some v) :
    ∃ w', (Builtin.copy_ #[dT, sT] ty #[.slice (some ⟨g, 0, none⟩) len dCap, .slice (some ad) 1 sCap]).run P w = .ok (goInt 1) w' ∧
      (∃ cur', w'.heap[g]? = some (.cells cur' t (0, 0)) ∧ RepSt ys 1 len cur') ∧ Keep [g] w w' := by
  have hfit : ys.length ≤ len * ys.length := Nat.le_mul_of_pos_left _ hl
  obtain ⟨cur', e1, e2, e3, e4⟩ := heap_setCells ys 0 w cur hh (by omega)
  refine ⟨w.setCells g 0 ys, ?_, ⟨cur', e1, by rw [e2, hz], fun j hj => ?_⟩, (Keep.refl _ _).setCells (.inl (by simp)) _ _⟩
  · have hmin : Nat.min 1 len = 1 := by simp [Nat.min_def]; omega
    have := run_copy_N (P := P) w dT sT ty elem ys.length g 0 len dCap ad 1 sCap ys hu hs (by rw [hmin, Nat.one_mul]) hsrc
      (fun j hj => by rw [cell_of_heap hh, Array.getElem?_eq_getElem (by omega)]; rfl) (fun j hj => frozen_of_heap hh _) h1
    rw [hmin] at this
    exact this
  · rw [Nat.one_mul] at hj
    have := e3 j hj
    rw [Nat.zero_add] at this
    rw [this, Nat.mod_eq_of_lt hj]
end Go.Proofs.YtaokegobilphnaaGreatDoor
/- slices.Repeat of one element (printed by wip/tools/repeat.py) -/
namespace Go.Proofs.YtaokegobilphnaaGreatDoor
open Go Go.RowKit Go.Lib Sp
set_option linter.unusedVariables false
set_option linter.unusedSimpArgs false

theorem wpList_copy_run {P : Program} {w : World} {ops : Array Oper} {rest : List Oper} {o : Oper} {a : Act} {Q : Exit → Act → World → Prop} (hgd : o.guard = none) (d s : Operand) (dT sT : TypeId)
    (ho : o.op = .call { callee := .builtin .copy, args := #[d, s], argTypes := #[dT, sT] }) (dv sv : Value) (hd : a.eval d = dv) (hs : a.eval s = sv) (v : Value) (w' : World)
    (hrun : (Builtin.copy_ #[dT, sT] o.type #[dv, sv]).run P w = .ok v w') (h : wpList P ops Q rest (a.put o.dst v) w') : wpList P ops Q (o :: rest) a w := by
  refine wpList_plain hgd fun K hK => ?_
  unfold Oper.wp
  simp [execOp, ho, resolve, invoke, builtin, hd, hs, hrun, Result.andThen]
  exact hK _ _ h
set_option linter.unusedVariables false
def RpCelV (W0 : World) (g n m len : Nat) (ys : List Value) : Nat → Value → Prop
  | 0, v => v = .int .i64 n
  | 1, v => v = .slice (some ⟨g, 0, none⟩) len len
  | 2, v => v = .int .i64 n
  | 3, v => v = .slice (some ⟨g, n * 8, none⟩) (len - n) (len - n)
  | 4, v => v = .slice (some ⟨g, 0, none⟩) len len
  | 5, v => v = .int .i64 n
  | 6, v => v = .slice (some ⟨g, 0, none⟩) n len
  | 7, v => v = .int .i64 m
  | 8, v => v = .int .i64 ((n : Int) + m)
  | 9, v => v = .int .i64 ((n : Int) + m)
  | _, _ => True
def RpCelW (W0 : World) (g n m len : Nat) (ys : List Value) (l : Nat → Bool) (w : World) : Prop := Keep [g] W0 w ∧ ∃ cur, w.heap[g]? = some (.cells cur 73 (0, 0)) ∧ RepSt ys (if l 7 then n + m else n) len cur

set_option maxRecDepth 100000 in
set_option maxHeartbeats 2000000 in
theorem RpCel_any (A : Option Addr) (ca : Nat) (ys : List Value) (hy : ys.length = 8) (h1 : ∀ v ∈ ys, v.oneCell' = true) (len : Nat) (hl : 0 < len) (hl2 : len < 100000) (w : World) (hr : Rd w 8 A 1 ys) :
    Calls Tryz.prog 159 #[.slice A 1 ca, .int .i64 len] w fun e w' => ∃ g, e = .returned (.slice (some ⟨g, 0, none⟩) len len) ∧ (∃ cur, w'.heap[g]? = some (.cells cur 73 (0, 0)) ∧ RepSt ys len len cur) ∧ w.heap.size ≤ g ∧ Below w.heap.size w w' := by
  obtain ⟨b, off, rfl, hb, hc⟩ := hr.2 (by omega)
  have HY := Lib.hid (And.intro hy h1)
  obtain ⟨i0, hi, hz0, hz1, hz2⟩ := info_parts (show (Tryz.prog.info? 73).map (fun i => (i.zero, i.size, i.bytes)) = some (some (.agg #[.int .i64 0, .int .i64 0, .int .i64 0, .int .i64 0, .int .i64 0, .int .i64 0, .int .i64 0, .int .i64 0]), 8, 64) from by kernel_rfl)
  obtain ⟨C, hC⟩ : ∃ C, C = madeCells (Value.agg #[.int .i64 0, .int .i64 0, .int .i64 0, .int .i64 0, .int .i64 0, .int .i64 0, .int .i64 0, .int .i64 0]).cells (len * 8) := ⟨_, rfl⟩
  have hCs : C.size = len * 8 := by rw [hC, size_madeCells]
  have hmk : ∀ w : World, (Instr.makeSlice 55 (.int .i64 len) (.int .i64 len)).run Tryz.prog w = .ok (.slice (some ⟨w.heap.size, 0, none⟩) len len) (w.alloc (.cells C 73)) := fun w => by
    have := run_makeSlice (P := Tryz.prog) w 55 73 i0 _ Tryz.underlying55 hi hz0 .i64 .i64 (len : Int) (len : Int) (by omega) (by omega) (by rw [hz1]; simp; omega) (by rw [hz2]; omega) (by omega)
    rw [hz1] at this
    simp only [Int.toNat_natCast] at this
    rw [hC]; exact this
  have hu1 : IntKind.u64.wrap (len : Int) = (len : Int) := by rw [IntKind.wrap_u64]; omega
  have hu2 : IntKind.i64.wrap (len : Int) = (len : Int) := by rw [IntKind.wrap_i64]; omega
  have n1 : ¬ (len : Int) < 0 := by omega
  have n2 : ¬ (9223372036854775807 : Int) < (len : Int) := by omega
  obtain ⟨W, hW⟩ : ∃ W, W = w.alloc (.cells C 73) := ⟨_, rfl⟩
  obtain ⟨g, hg⟩ : ∃ g, g = w.heap.size := ⟨_, rfl⟩
  have hh : W.heap[g]? = some (.cells C 73 (0, 0)) := by rw [hW, hg]; exact heap_alloc_new _ _
  have bW : Below w.heap.size w W := by rw [hW]; exact (Below.refl _ _).alloc (Nat.le_refl _) _
  have hgw : w.heap.size ≤ g := by omega
  obtain ⟨w2, hrun, ⟨cur1, q1, q2⟩, q3⟩ := rep_first (P := Tryz.prog) (w := W) (dT := 55) (sT := 55) (ty := 3) (dCap := len) (sCap := ca) (ad := ⟨b, off, none⟩) (ys := ys) Tryz.underlying55 (by rw [hy]; kernel_rfl) (by omega) h1 hh (by rw [hCs, hy]) hl
    (fun j v hj => by
      have := hc j v hj
      rw [show (⟨b, off, none⟩ : Addr).add j = ⟨b, off + j, none⟩ from by by_cases h : j = 0 <;> simp [Addr.add, h]]
      exact (bW.cell (p := ⟨b, off + j, none⟩) hb).trans this)
  have HR := Lib.hid (And.intro hh (And.intro bW (And.intro hgw (And.intro q1 (And.intro q2 q3)))))
  have HRUN := Lib.hid hrun
  clear hh bW q1 q2 q3 hrun hc hr hi hz0 hz1 hz2 hC hCs hy h1
  go_enter Tryz.func159, Tryz.ntmps159
  go_upto_region 7 with (go_at_call 102; refine (mul_any len (by omega) _).mono ?_; rintro e w' ⟨rfl, rfl⟩)
  rw [← hW, ← hg]
  clear hmk hu1 hu2 n1 n2 hW hg
  go_wp2_with (refine wpList_copy_run rfl (.tmp 31) (.tmp 32) 55 55 rfl _ _ rfl rfl _ _ HRUN.out ?_)
  go_loopw [8] (fun v wr => ∃ (n : Nat) (cur0 : Array Value), 1 ≤ n ∧ n ≤ len ∧ v = .int .i64 n ∧ wr.heap[g]? = some (.cells cur0 73 (0, 0)) ∧ RepSt ys n len cur0 ∧ Keep [g] W wr) (fun v _ => len - (Go.RowKit.intOf v).toNat)
  case atStart => exact ⟨1, cur1, by omega, by omega, rfl, HR.out.2.2.2.1, HR.out.2.2.2.2.1, HR.out.2.2.2.2.2⟩
  case round =>
    obtain ⟨n, cur0, hn1, hn2, rfl, hcur, hrep, hK⟩ := hrel
    have HC := Lib.hid (And.intro hcur hrep)
    have HK := Lib.hid hK
    clear hcur hrep hK
    by_cases hlt : n < len
    · obtain ⟨m, hm⟩ : ∃ m, m = min n (len - n) := ⟨_, rfl⟩
      have hmb : 1 ≤ m ∧ m ≤ len - n := by omega
      obtain ⟨hm1, hm2⟩ := hmb
      have HM := Lib.hid hm
      have hlt' : (n : Int) < (len : Int) := by omega
      clear hm
      go_upto_region 9 with fail
      refine wp_region_steps (σ := Unit) (by kernel_rfl) (by kernel_rfl) (fun _ jx vx _ => RpCelV wr g n m len ys jx vx) (fun _ ly wx => RpCelW wr g n m len ys ly wx) () ?_ ?_ ?_
      · exact ⟨(Keep.refl _ _).drew, cur0, HC.out.1, by rw [if_neg (by simp)]; exact HC.out.2⟩
      · simp only [AllFrom, Nat.zero_add, Nat.reduceAdd]
        refine ⟨?_, ?_, ?_, ?_, ?_, ?_, ?_, ?_, ?_, ?_, trivial⟩
        · refine step_pure fun sg ly a wr hl hd hW hF => ?_
          have ny8_8 := hF.notYet 0 8 hl (by kernel_rfl)
          have ny8 := hF.notYet 8 9 ny8_8 (by kernel_rfl)
          have et8 := hF.was 9 8 ny8 (by kernel_rfl)
          simp [Act.eval] at et8
          exact ⟨by simpa [RpCelW, upd] using hW, .int .i64 n, by go_simp, rfl⟩
        · refine step_pure fun sg ly a wr hl hd hW hF => ?_
          have et7 := hF.old 7 (by kernel_rfl)
          simp [Act.eval] at et7
          exact ⟨by simpa [RpCelW, upd] using hW, .slice (some ⟨g, 0, none⟩) len len, by go_simp, rfl⟩
        · refine step_pure fun sg ly a wr hl hd hW hF => ?_
          have ny8_3 := hF.notYet 2 3 hl (by kernel_rfl)
          have ny8_7 := hF.notYet 3 7 ny8_3 (by kernel_rfl)
          have ny8_8 := hF.notYet 7 8 ny8_7 (by kernel_rfl)
          have ny8 := hF.notYet 8 9 ny8_8 (by kernel_rfl)
          have et8 := hF.was 9 8 ny8 (by kernel_rfl)
          simp [Act.eval] at et8
          exact ⟨by simpa [RpCelW, upd] using hW, .int .i64 n, by go_simp, rfl⟩
        · refine step_pure fun sg ly a wr hl hd hW hF => ?_
          simp [Region.binds] at hd
          have et39 := hF.new 1 39 (by simp [hd]) rfl
          simp [RpCelV, Act.eval] at et39
          have et40 := hF.new 2 40 (by simp [hd]) rfl
          simp [RpCelV, Act.eval] at et40
          have b1 : (0 : Int) ≤ (n : Int) := by omega
          have b2 : (n : Int) ≤ (len : Int) := by omega
          have b3 : n < len := hlt
          have b4 : ¬ len = n := by omega
          exact ⟨by simpa [RpCelW, upd] using hW, .slice (some ⟨g, n * 8, none⟩) (len - n) (len - n), by go_simp, rfl⟩
        · refine step_pure fun sg ly a wr hl hd hW hF => ?_
          have et7 := hF.old 7 (by kernel_rfl)
          simp [Act.eval] at et7
          exact ⟨by simpa [RpCelW, upd] using hW, .slice (some ⟨g, 0, none⟩) len len, by go_simp, rfl⟩
        · refine step_pure fun sg ly a wr hl hd hW hF => ?_
          have ny8_6 := hF.notYet 5 6 hl (by kernel_rfl)
          have ny8_7 := hF.notYet 6 7 ny8_6 (by kernel_rfl)
          have ny8_8 := hF.notYet 7 8 ny8_7 (by kernel_rfl)
          have ny8 := hF.notYet 8 9 ny8_8 (by kernel_rfl)
          have et8 := hF.was 9 8 ny8 (by kernel_rfl)
          simp [Act.eval] at et8
          exact ⟨by simpa [RpCelW, upd] using hW, .int .i64 n, by go_simp, rfl⟩
        · refine step_pure fun sg ly a wr hl hd hW hF => ?_
          simp [Region.binds] at hd
          have et42 := hF.new 4 42 (by simp [hd]) rfl
          simp [RpCelV, Act.eval] at et42
          have et43 := hF.new 5 43 (by simp [hd]) rfl
          simp [RpCelV, Act.eval] at et43
          have b1 : (0 : Int) ≤ (n : Int) := by omega
          have b2 : (n : Int) ≤ (len : Int) := by omega
          exact ⟨by simpa [RpCelW, upd] using hW, .slice (some ⟨g, 0, none⟩) n len, by go_simp, rfl⟩
        · refine step_run fun sg ly a wr hl hd hW hF => ?_
          simp [Region.binds] at hd
          have et41 := hF.new 3 41 (by simp [hd]) rfl
          simp [RpCelV, Act.eval] at et41
          have et44 := hF.new 6 44 (by simp [hd]) rfl
          simp [RpCelV, Act.eval] at et44
          obtain ⟨hK, cur, hh, hR⟩ := hW
          rw [if_neg (by simp [hl])] at hR
          obtain ⟨w', hrun, ⟨cur', h1, h2⟩, h3, _⟩ := rep_copy (P := Tryz.prog) (dT := 55) (sT := 55) (ty := 3) (dCap := len - n) (sCap := len) (m := m) Tryz.underlying55 (by rw [HY.out.1]; kernel_rfl) (by rw [HY.out.1]; decide) HY.out.2 hh hR (by omega) HM.out
          rw [HY.out.1] at hrun
          refine ⟨.int .i64 m, w', (), ?_, ⟨hK.trans h3 (by simp), cur', h1, by rw [if_pos (by simp [upd])]; exact h2⟩, rfl, fun _ _ _ h => h⟩
          simp [execOp, resolve, invoke, builtin, Act.eval, et41, et44, hrun, Result.andThen, goInt]
        · refine step_pure fun sg ly a wr hl hd hW hF => ?_
          simp [Region.binds] at hd
          have et38 := hF.new 0 38 (by simp [hd]) rfl
          simp [RpCelV, Act.eval] at et38
          have et45 := hF.new 7 45 (by simp [hd]) rfl
          simp [RpCelV, Act.eval] at et45
          have ew := IntWalk.i64_in ((n : Int) + m) (by omega)
          exact ⟨by simpa [RpCelW, upd] using hW, .int .i64 ((n : Int) + m), by go_simp, rfl⟩
        · refine step_pure fun sg ly a wr hl hd hW hF => ?_
          simp [Region.binds] at hd
          have et46 := hF.new 8 46 (by simp [hd]) rfl
          simp [RpCelV, Act.eval] at et46
          exact ⟨by simpa [RpCelW, upd] using hW, .int .i64 ((n : Int) + m), by go_simp, rfl⟩
      intro _ a w5 hW hF
      have e8 := hF.new 9 8 (by decide) rfl
      obtain ⟨f, hf, rfl⟩ := hF.lit
      rw [← hf] at e8
      simp only [RpCelV] at e8
      obtain ⟨hK5, cur5, h5, hR5⟩ := hW
      simp only [List.length_cons, List.length_nil, Nat.reduceAdd, Nat.reduceLT, decide_true, if_true] at hR5
      have H5 := Lib.hid (And.intro hK5 (And.intro h5 hR5))
      clear hf hF hK5 h5 hR5
      simp only [List.filterMap, List.foldl, List.setIfInBounds_toArray, List.set_cons_succ, List.set_cons_zero, e8]
      clear e8
      go_wp2_with fail
      go_roundw
      case measure => simp [Go.RowKit.intOf]; omega
      case rel => exact ⟨n + m, cur5, by omega, by omega, by simp, H5.out.2.1, H5.out.2.2, HK.out.trans H5.out.1 (by simp)⟩
    · obtain rfl : n = len := by omega
      go_wp2_with fail
      go_ret
      exact ⟨g, rfl, ⟨cur0, HC.out.1, HC.out.2⟩, HR.out.2.2.1, HR.out.2.1.trans (HK.out.below HR.out.2.1.size (by simpa using HR.out.2.2.1))⟩
end Go.Proofs.YtaokegobilphnaaGreatDoor
