/- math/bits.Mul of 1 and a number; ice: whole, each, cell, Whole (printed by wip/tools/icej.py) -/
import Derived.Test.YtalcinepeofmcaaDoorRSp16
import Derived.Laws.Bits64b
import Derived.IntWalk
import Derived.Test.YtalcinepeofmcaaDoorRSp11
import Derived.Deep.RegionHeld3
import Derived.Test.YtalcinepeofmcaaDoorRSp7
import Derived.Test.YtalcinepeofmcaaDoorRSp0
set_option linter.unusedVariables false
set_option linter.unusedSimpArgs false
namespace Go.Proofs.YtalcinepeofmcaaDoor
open Go Go.RowKit Go.Lib Sp
set_option linter.unusedVariables false

theorem bitsN (n : Nat) (hn : n < 4294967296) : bits .and .u64 (n : Int) 4294967295 = (n : Int) := by
  have h := bits_and_u64_nat n 4294967295 (by omega) (by omega)
  have e : n &&& 4294967295 = n := by
    have := Nat.and_two_pow_sub_one_eq_mod n 32
    simp only [Nat.reducePow, Nat.reduceSub] at this
    rw [this]; omega
  rw [e] at h
  exact h
set_option maxRecDepth 100000 in
set_option maxHeartbeats 1000000 in
theorem mul64_any (n : Nat) (hn : n < 1000000) (w : World) :
    Calls Tryd.prog 74 #[.int .u64 1, .int .u64 n] w fun e w' => e = .returned (.tuple #[.int .u64 0, .int .u64 n]) ∧ w = w' := by
  have h1 := bitsN n (by omega)
  have h4 : bits .and .u64 1 4294967295 = 1 := bitsN 1 (by omega)
  have h5 : bits .and .u64 0 4294967295 = 0 := bitsN 0 (by omega)
  have h2 : (n : Int) / 4294967296 = 0 := by omega
  have h3 : IntKind.u64.wrap (n : Int) = (n : Int) := by rw [IntKind.wrap_u64]; omega
  have h6 : IntKind.u64.wrap 0 = 0 := rfl
  go_enter Tryd.func74, Tryd.ntmps74
  go_wp2_with fail
  go_ret2
  exact ⟨rfl, rfl⟩
set_option maxRecDepth 100000 in
theorem mul_any (n : Nat) (hn : n < 1000000) (w : World) :
    Calls Tryd.prog 47 #[.int .u64 1, .int .u64 n] w fun e w' => e = .returned (.tuple #[.int .u64 0, .int .u64 n]) ∧ w = w' := by
  go_enter Tryd.func47, Tryd.ntmps47
  go_wp2_with (go_at_call 74; refine (mul64_any n hn _).mono ?_; rintro e w' ⟨rfl, rfl⟩)
  go_ret2
  exact ⟨rfl, rfl⟩

theorem span_results {F : Func} {r : Nat} (hF : F.results = #[.cell r 28]) {W : World} {b : Nat} {x y : Int} (h : W.heap[b]? = some (.cells #[.int .i64 x, .int .i64 y] 28 (0, 0))) (tmps : Array Value) (hr : tmps.getD r undef = .pointer (some ⟨b, 0, none⟩)) :
    (results F tmps).run Tryd.prog W = .ok (.agg #[.int .i64 x, .int .i64 y]) W := by
  have g4 : tmps[r]?.getD undef = .pointer (some ⟨b, 0, none⟩) := by simpa using hr
  have c0 : W.cell? ⟨b, 0, none⟩ = some (.int .i64 x) := (cell_of_heap h 0).trans rfl
  have c1 : W.cell? ⟨b, 1, none⟩ = some (.int .i64 y) := (cell_of_heap h 1).trans rfl
  simp [results, hF, g4, asAddr, go_sem, c0, c1]
theorem spans_results {F : Func} {r : Nat} (hF : F.results = #[.cell r 113]) {W : World} {b : Nat} {x0 x1 x2 x3 x4 x5 x6 x7 : Int} (h : W.heap[b]? = some (.cells #[.int .i64 x0, .int .i64 x1, .int .i64 x2, .int .i64 x3, .int .i64 x4, .int .i64 x5, .int .i64 x6, .int .i64 x7] 113 (0, 0))) (tmps : Array Value) (hr : tmps.getD r undef = .pointer (some ⟨b, 0, none⟩)) :
    (results F tmps).run Tryd.prog W = .ok (.agg #[.int .i64 x0, .int .i64 x1, .int .i64 x2, .int .i64 x3, .int .i64 x4, .int .i64 x5, .int .i64 x6, .int .i64 x7]) W := by
  have g4 : tmps[r]?.getD undef = .pointer (some ⟨b, 0, none⟩) := by simpa using hr
  have c0 : W.cell? ⟨b, 0, none⟩ = some (.int .i64 x0) := (cell_of_heap h 0).trans rfl
  have c1 : W.cell? ⟨b, 1, none⟩ = some (.int .i64 x1) := (cell_of_heap h 1).trans rfl
  have c2 : W.cell? ⟨b, 2, none⟩ = some (.int .i64 x2) := (cell_of_heap h 2).trans rfl
  have c3 : W.cell? ⟨b, 3, none⟩ = some (.int .i64 x3) := (cell_of_heap h 3).trans rfl
  have c4 : W.cell? ⟨b, 4, none⟩ = some (.int .i64 x4) := (cell_of_heap h 4).trans rfl
  have c5 : W.cell? ⟨b, 5, none⟩ = some (.int .i64 x5) := (cell_of_heap h 5).trans rfl
  have c6 : W.cell? ⟨b, 6, none⟩ = some (.int .i64 x6) := (cell_of_heap h 6).trans rfl
  have c7 : W.cell? ⟨b, 7, none⟩ = some (.int .i64 x7) := (cell_of_heap h 7).trans rfl
  simp [results, hF, g4, asAddr, go_sem, c0, c1, c2, c3, c4, c5, c6, c7]
theorem celA_results {F : Func} {r : Nat} (hF : F.results = #[.cell r 30]) {W : World} {b : Nat} {x0 x1 x2 x3 x4 x5 x6 x7 : Int} (h : W.heap[b]? = some (.cells #[.int .i64 x0, .int .i64 x1, .int .i64 x2, .int .i64 x3, .int .i64 x4, .int .i64 x5, .int .i64 x6, .int .i64 x7] 30 (0, 0))) (tmps : Array Value) (hr : tmps.getD r undef = .pointer (some ⟨b, 0, none⟩)) :
    (results F tmps).run Tryd.prog W = .ok (.agg #[.int .i64 x0, .int .i64 x1, .int .i64 x2, .int .i64 x3, .int .i64 x4, .int .i64 x5, .int .i64 x6, .int .i64 x7]) W := by
  have g4 : tmps[r]?.getD undef = .pointer (some ⟨b, 0, none⟩) := by simpa using hr
  have c0 : W.cell? ⟨b, 0, none⟩ = some (.int .i64 x0) := (cell_of_heap h 0).trans rfl
  have c1 : W.cell? ⟨b, 1, none⟩ = some (.int .i64 x1) := (cell_of_heap h 1).trans rfl
  have c2 : W.cell? ⟨b, 2, none⟩ = some (.int .i64 x2) := (cell_of_heap h 2).trans rfl
  have c3 : W.cell? ⟨b, 3, none⟩ = some (.int .i64 x3) := (cell_of_heap h 3).trans rfl
  have c4 : W.cell? ⟨b, 4, none⟩ = some (.int .i64 x4) := (cell_of_heap h 4).trans rfl
  have c5 : W.cell? ⟨b, 5, none⟩ = some (.int .i64 x5) := (cell_of_heap h 5).trans rfl
  have c6 : W.cell? ⟨b, 6, none⟩ = some (.int .i64 x6) := (cell_of_heap h 6).trans rfl
  have c7 : W.cell? ⟨b, 7, none⟩ = some (.int .i64 x7) := (cell_of_heap h 7).trans rfl
  simp [results, hF, g4, asAddr, go_sem, c0, c1, c2, c3, c4, c5, c6, c7]

def wholeS (k : Nat) : Int × Int := (0, mostN k)
set_option maxRecDepth 100000 in
theorem whole1_any (k : Nat) (hk : k < 4) (w : World) :
    Calls Tryd.prog 76 #[.int .i64 k] w fun e w' => e = .returned (.agg #[.int .i64 (wholeS k).1, .int .i64 (wholeS k).2]) ∧ Below w.heap.size w w' := by
  have h0 := fun w => (most_index w).1.1
  have h1 := fun w => (most_index w).1.2
  have h2 := fun w => (most_index w).2.1
  have h3 := fun w => (most_index w).2.2
  obtain ⟨W, hW⟩ : ∃ W, W = w.alloc (.cells #[.int .i64 0, .int .i64 0] 28) := ⟨_, rfl⟩
  obtain ⟨rb, hrb⟩ : ∃ b, b = w.heap.size := ⟨_, rfl⟩
  have hh : W.heap[rb]? = some (.cells #[.int .i64 0, .int .i64 0] 28 (0, 0)) := by rw [hW, hrb]; exact heap_alloc_new _ _
  have bW : Below w.heap.size w W := by rw [hW]; exact (Below.refl _ _).alloc (Nat.le_refl _) _
  have hrw : w.heap.size ≤ rb := by omega
  have HR := Lib.hid (And.intro hh (And.intro bW hrw))
  clear hh bW hrw
  rcases (by omega : k = 0 ∨ k = 1 ∨ k = 2 ∨ k = 3) with rfl | rfl | rfl | rfl
  · show Calls Tryd.prog 76 #[.int .i64 0] w fun e w' => e = .returned (.agg #[.int .i64 0, .int .i64 100]) ∧ Below w.heap.size w w'
    go_enter Tryd.func76, Tryd.ntmps76
    go_upto_region 1 with fail
    rw [← hW, ← hrb]
    clear hW hrb
    go_wp2_with fail
    refine (most_any _).mono ?_
    rintro e w2 ⟨rfl, b2⟩
    have hh := (b2.block _ (heap_lt HR.out.1)).trans HR.out.1
    have c0 := (cell_of_heap hh 0).trans rfl
    have c1 := (cell_of_heap hh 1).trans rfl
    have f0 := frozen_of_heap hh 0
    have f1 := frozen_of_heap hh 1
    have zo := heap_lt hh
    have H3 := Lib.hid (And.intro hh (HR.out.2.1.trans (b2.mono HR.out.2.1.size)))
    clear hh b2
    go_wp2_with fail
    exact bodyPost_ret (span_results (r := 2) rfl (heap_set (heap_set H3.out.1 0 _) 1 _) _ rfl) rfl ⟨rfl, (H3.out.2.setCell HR.out.2.2 _).setCell HR.out.2.2 _⟩
  · show Calls Tryd.prog 76 #[.int .i64 1] w fun e w' => e = .returned (.agg #[.int .i64 0, .int .i64 400]) ∧ Below w.heap.size w w'
    go_enter Tryd.func76, Tryd.ntmps76
    go_upto_region 1 with fail
    rw [← hW, ← hrb]
    clear hW hrb
    go_wp2_with fail
    refine (most_any _).mono ?_
    rintro e w2 ⟨rfl, b2⟩
    have hh := (b2.block _ (heap_lt HR.out.1)).trans HR.out.1
    have c0 := (cell_of_heap hh 0).trans rfl
    have c1 := (cell_of_heap hh 1).trans rfl
    have f0 := frozen_of_heap hh 0
    have f1 := frozen_of_heap hh 1
    have zo := heap_lt hh
    have H3 := Lib.hid (And.intro hh (HR.out.2.1.trans (b2.mono HR.out.2.1.size)))
    clear hh b2
    go_wp2_with fail
    exact bodyPost_ret (span_results (r := 2) rfl (heap_set (heap_set H3.out.1 0 _) 1 _) _ rfl) rfl ⟨rfl, (H3.out.2.setCell HR.out.2.2 _).setCell HR.out.2.2 _⟩
  · show Calls Tryd.prog 76 #[.int .i64 2] w fun e w' => e = .returned (.agg #[.int .i64 0, .int .i64 100]) ∧ Below w.heap.size w w'
    go_enter Tryd.func76, Tryd.ntmps76
    go_upto_region 1 with fail
    rw [← hW, ← hrb]
    clear hW hrb
    go_wp2_with fail
    refine (most_any _).mono ?_
    rintro e w2 ⟨rfl, b2⟩
    have hh := (b2.block _ (heap_lt HR.out.1)).trans HR.out.1
    have c0 := (cell_of_heap hh 0).trans rfl
    have c1 := (cell_of_heap hh 1).trans rfl
    have f0 := frozen_of_heap hh 0
    have f1 := frozen_of_heap hh 1
    have zo := heap_lt hh
    have H3 := Lib.hid (And.intro hh (HR.out.2.1.trans (b2.mono HR.out.2.1.size)))
    clear hh b2
    go_wp2_with fail
    exact bodyPost_ret (span_results (r := 2) rfl (heap_set (heap_set H3.out.1 0 _) 1 _) _ rfl) rfl ⟨rfl, (H3.out.2.setCell HR.out.2.2 _).setCell HR.out.2.2 _⟩
  · show Calls Tryd.prog 76 #[.int .i64 3] w fun e w' => e = .returned (.agg #[.int .i64 0, .int .i64 3]) ∧ Below w.heap.size w w'
    go_enter Tryd.func76, Tryd.ntmps76
    go_upto_region 1 with fail
    rw [← hW, ← hrb]
    clear hW hrb
    go_wp2_with fail
    refine (most_any _).mono ?_
    rintro e w2 ⟨rfl, b2⟩
    have hh := (b2.block _ (heap_lt HR.out.1)).trans HR.out.1
    have c0 := (cell_of_heap hh 0).trans rfl
    have c1 := (cell_of_heap hh 1).trans rfl
    have f0 := frozen_of_heap hh 0
    have f1 := frozen_of_heap hh 1
    have zo := heap_lt hh
    have H3 := Lib.hid (And.intro hh (HR.out.2.1.trans (b2.mono HR.out.2.1.size)))
    clear hh b2
    go_wp2_with fail
    exact bodyPost_ret (span_results (r := 2) rfl (heap_set (heap_set H3.out.1 0 _) 1 _) _ rfl) rfl ⟨rfl, (H3.out.2.setCell HR.out.2.2 _).setCell HR.out.2.2 _⟩

def eachWA (g : Nat → Int × Int) : Nat → Array Value
  | 0 => #[.int .i64 0, .int .i64 0, .int .i64 0, .int .i64 0, .int .i64 0, .int .i64 0, .int .i64 0, .int .i64 0]
  | 1 => #[.int .i64 (g 0).1, .int .i64 (g 0).2, .int .i64 0, .int .i64 0, .int .i64 0, .int .i64 0, .int .i64 0, .int .i64 0]
  | 2 => #[.int .i64 (g 0).1, .int .i64 (g 0).2, .int .i64 (g 1).1, .int .i64 (g 1).2, .int .i64 0, .int .i64 0, .int .i64 0, .int .i64 0]
  | 3 => #[.int .i64 (g 0).1, .int .i64 (g 0).2, .int .i64 (g 1).1, .int .i64 (g 1).2, .int .i64 (g 2).1, .int .i64 (g 2).2, .int .i64 0, .int .i64 0]
  | _ => #[.int .i64 (g 0).1, .int .i64 (g 0).2, .int .i64 (g 1).1, .int .i64 (g 1).2, .int .i64 (g 2).1, .int .i64 (g 2).2, .int .i64 (g 3).1, .int .i64 (g 3).2]
set_option maxRecDepth 100000 in
set_option maxHeartbeats 2000000 in
theorem eachW  (g : Nat → Int × Int) (w : World) (hg : ∀ k : Nat, k < 4 → ∀ wx, Below w.heap.size w wx → Calls Tryd.prog 76 #[.int .i64 k] wx fun e w' => e = .returned (.agg #[.int .i64 (g k).1, .int .i64 (g k).2]) ∧ Below wx.heap.size wx w') :
    Calls Tryd.prog 75 #[.func (.func 76) #[] #[]] w fun e w' => e = .returned (.agg #[.int .i64 (g 0).1, .int .i64 (g 0).2, .int .i64 (g 1).1, .int .i64 (g 1).2, .int .i64 (g 2).1, .int .i64 (g 2).2, .int .i64 (g 3).1, .int .i64 (g 3).2]) ∧ Below w.heap.size w w' := by
  obtain ⟨W, hW⟩ : ∃ W, W = (w.alloc (.cells #[.int .i64 0, .int .i64 0, .int .i64 0, .int .i64 0, .int .i64 0, .int .i64 0, .int .i64 0, .int .i64 0] 113)).alloc (.cells #[.int .i64 0, .int .i64 0, .int .i64 0, .int .i64 0, .int .i64 0, .int .i64 0, .int .i64 0, .int .i64 0] 113) := ⟨_, rfl⟩
  obtain ⟨rb, hrb⟩ : ∃ b, b = w.heap.size := ⟨_, rfl⟩
  obtain ⟨ob, hob⟩ : ∃ b, b = w.heap.size + 1 := ⟨_, rfl⟩
  have hrh : W.heap[rb]? = some (.cells #[.int .i64 0, .int .i64 0, .int .i64 0, .int .i64 0, .int .i64 0, .int .i64 0, .int .i64 0, .int .i64 0] 113 (0, 0)) := by rw [hW, hrb]; exact heap_alloc' (heap_alloc_new _ _) _
  have hoh : W.heap[ob]? = some (.cells #[.int .i64 0, .int .i64 0, .int .i64 0, .int .i64 0, .int .i64 0, .int .i64 0, .int .i64 0, .int .i64 0] 113 (0, 0)) := by
    rw [hW, hob]
    have := heap_alloc_new (w.alloc (.cells #[.int .i64 0, .int .i64 0, .int .i64 0, .int .i64 0, .int .i64 0, .int .i64 0, .int .i64 0, .int .i64 0] 113)) (.cells #[.int .i64 0, .int .i64 0, .int .i64 0, .int .i64 0, .int .i64 0, .int .i64 0, .int .i64 0, .int .i64 0] 113)
    rwa [World.size_alloc] at this
  have bW : Below w.heap.size w W := by rw [hW]; exact ((Below.refl _ _).alloc (Nat.le_refl _) _).alloc (by simp) _
  have hrw : w.heap.size ≤ rb := by omega
  have how : w.heap.size ≤ ob := by omega
  have hne : rb ≠ ob := by omega
  have HR := Lib.hid (And.intro hrh (And.intro hoh (And.intro bW (And.intro hne hg))))
  clear hrh hoh bW hne hg
  go_enter Tryd.func75, Tryd.ntmps75
  go_upto_region 2 with fail
  rw [← hW, ← hob, ← hrb]
  clear hW hob hrb
  go_wp2_with fail
  go_loopw [5] (fun i wr => ∃ k : Nat, k ≤ 4 ∧ i = .int .i64 k ∧ wr.heap[ob]? = some (.cells (eachWA g k) 113 (0, 0)) ∧ Keep [ob] W wr) (fun i _ => 4 - (intOf i).toNat)
  case atStart => exact ⟨0, by omega, rfl, HR.out.2.1, Keep.refl _ _⟩
  case round =>
    obtain ⟨k, hk, rfl, hh, hK⟩ := hrel
    have bw : Below w.heap.size w wr := HR.out.2.2.1.trans (hK.below HR.out.2.2.1.size (by simpa using how))
    have HB := Lib.hid (And.intro hh (And.intro hK bw))
    clear hh hK bw
    rcases (by omega : k = 0 ∨ k = 1 ∨ k = 2 ∨ k = 3 ∨ k = 4) with rfl | rfl | rfl | rfl | rfl
    · have hc := HR.out.2.2.2.2 0 (by omega) wr HB.out.2.2
      obtain ⟨x, y, hxy⟩ : ∃ x y : Int, g 0 = (x, y) := ⟨_, _, rfl⟩
      rw [hxy] at hc
      have HC := Lib.hid (And.intro hc hxy)
      clear hc hxy
      go_wp2_with fail
      refine HC.out.1.mono ?_
      rintro e w2 ⟨rfl, b2⟩
      have hh2 : w2.heap[ob]? = some (.cells #[.int .i64 0, .int .i64 0, .int .i64 0, .int .i64 0, .int .i64 0, .int .i64 0, .int .i64 0, .int .i64 0] 113 (0, 0)) := (b2.block _ (heap_lt HB.out.1)).trans HB.out.1
      have c0 := (cell_of_heap hh2 0).trans rfl
      have c1 := (cell_of_heap hh2 1).trans rfl
      have f0 := frozen_of_heap hh2 0
      have f1 := frozen_of_heap hh2 1
      have zo := heap_lt hh2
      have hh3 : ((w2.setCell ⟨ob, 0, none⟩ (.int .i64 x)).setCell ⟨ob, 1, none⟩ (.int .i64 y)).heap[ob]? = some (.cells (eachWA g 1) 113 (0, 0)) := by
        have := heap_set (heap_set hh2 0 (.int .i64 x)) 1 (.int .i64 y)
        rw [this]
        simp [eachWA, HC.out.2]
      have hK3 : Keep [ob] W ((w2.setCell ⟨ob, 0, none⟩ (.int .i64 x)).setCell ⟨ob, 1, none⟩ (.int .i64 y)) := ((HB.out.2.1.trans (Keep.of_below (S := []) b2) (by simp)).setCell (.inl (by simp)) _).setCell (.inl (by simp)) _
      have H3 := Lib.hid (And.intro hh3 hK3)
      clear hh2 hh3 hK3 b2
      go_wp2_with fail
      go_roundw
      case measure => simp [intOf]
      case rel => exact ⟨1, by omega, rfl, H3.out.1, H3.out.2⟩
    · have hc := HR.out.2.2.2.2 1 (by omega) wr HB.out.2.2
      obtain ⟨x, y, hxy⟩ : ∃ x y : Int, g 1 = (x, y) := ⟨_, _, rfl⟩
      rw [hxy] at hc
      have HC := Lib.hid (And.intro hc hxy)
      clear hc hxy
      go_wp2_with fail
      refine HC.out.1.mono ?_
      rintro e w2 ⟨rfl, b2⟩
      have hh2 : w2.heap[ob]? = some (.cells #[.int .i64 (g 0).1, .int .i64 (g 0).2, .int .i64 0, .int .i64 0, .int .i64 0, .int .i64 0, .int .i64 0, .int .i64 0] 113 (0, 0)) := (b2.block _ (heap_lt HB.out.1)).trans HB.out.1
      have c0 := (cell_of_heap hh2 2).trans rfl
      have c1 := (cell_of_heap hh2 3).trans rfl
      have f0 := frozen_of_heap hh2 2
      have f1 := frozen_of_heap hh2 3
      have zo := heap_lt hh2
      have hh3 : ((w2.setCell ⟨ob, 2, none⟩ (.int .i64 x)).setCell ⟨ob, 3, none⟩ (.int .i64 y)).heap[ob]? = some (.cells (eachWA g 2) 113 (0, 0)) := by
        have := heap_set (heap_set hh2 2 (.int .i64 x)) 3 (.int .i64 y)
        rw [this]
        simp [eachWA, HC.out.2]
      have hK3 : Keep [ob] W ((w2.setCell ⟨ob, 2, none⟩ (.int .i64 x)).setCell ⟨ob, 3, none⟩ (.int .i64 y)) := ((HB.out.2.1.trans (Keep.of_below (S := []) b2) (by simp)).setCell (.inl (by simp)) _).setCell (.inl (by simp)) _
      have H3 := Lib.hid (And.intro hh3 hK3)
      clear hh2 hh3 hK3 b2
      go_wp2_with fail
      go_roundw
      case measure => simp [intOf]
      case rel => exact ⟨2, by omega, rfl, H3.out.1, H3.out.2⟩
    · have hc := HR.out.2.2.2.2 2 (by omega) wr HB.out.2.2
      obtain ⟨x, y, hxy⟩ : ∃ x y : Int, g 2 = (x, y) := ⟨_, _, rfl⟩
      rw [hxy] at hc
      have HC := Lib.hid (And.intro hc hxy)
      clear hc hxy
      go_wp2_with fail
      refine HC.out.1.mono ?_
      rintro e w2 ⟨rfl, b2⟩
      have hh2 : w2.heap[ob]? = some (.cells #[.int .i64 (g 0).1, .int .i64 (g 0).2, .int .i64 (g 1).1, .int .i64 (g 1).2, .int .i64 0, .int .i64 0, .int .i64 0, .int .i64 0] 113 (0, 0)) := (b2.block _ (heap_lt HB.out.1)).trans HB.out.1
      have c0 := (cell_of_heap hh2 4).trans rfl
      have c1 := (cell_of_heap hh2 5).trans rfl
      have f0 := frozen_of_heap hh2 4
      have f1 := frozen_of_heap hh2 5
      have zo := heap_lt hh2
      have hh3 : ((w2.setCell ⟨ob, 4, none⟩ (.int .i64 x)).setCell ⟨ob, 5, none⟩ (.int .i64 y)).heap[ob]? = some (.cells (eachWA g 3) 113 (0, 0)) := by
        have := heap_set (heap_set hh2 4 (.int .i64 x)) 5 (.int .i64 y)
        rw [this]
        simp [eachWA, HC.out.2]
      have hK3 : Keep [ob] W ((w2.setCell ⟨ob, 4, none⟩ (.int .i64 x)).setCell ⟨ob, 5, none⟩ (.int .i64 y)) := ((HB.out.2.1.trans (Keep.of_below (S := []) b2) (by simp)).setCell (.inl (by simp)) _).setCell (.inl (by simp)) _
      have H3 := Lib.hid (And.intro hh3 hK3)
      clear hh2 hh3 hK3 b2
      go_wp2_with fail
      go_roundw
      case measure => simp [intOf]
      case rel => exact ⟨3, by omega, rfl, H3.out.1, H3.out.2⟩
    · have hc := HR.out.2.2.2.2 3 (by omega) wr HB.out.2.2
      obtain ⟨x, y, hxy⟩ : ∃ x y : Int, g 3 = (x, y) := ⟨_, _, rfl⟩
      rw [hxy] at hc
      have HC := Lib.hid (And.intro hc hxy)
      clear hc hxy
      go_wp2_with fail
      refine HC.out.1.mono ?_
      rintro e w2 ⟨rfl, b2⟩
      have hh2 : w2.heap[ob]? = some (.cells #[.int .i64 (g 0).1, .int .i64 (g 0).2, .int .i64 (g 1).1, .int .i64 (g 1).2, .int .i64 (g 2).1, .int .i64 (g 2).2, .int .i64 0, .int .i64 0] 113 (0, 0)) := (b2.block _ (heap_lt HB.out.1)).trans HB.out.1
      have c0 := (cell_of_heap hh2 6).trans rfl
      have c1 := (cell_of_heap hh2 7).trans rfl
      have f0 := frozen_of_heap hh2 6
      have f1 := frozen_of_heap hh2 7
      have zo := heap_lt hh2
      have hh3 : ((w2.setCell ⟨ob, 6, none⟩ (.int .i64 x)).setCell ⟨ob, 7, none⟩ (.int .i64 y)).heap[ob]? = some (.cells (eachWA g 4) 113 (0, 0)) := by
        have := heap_set (heap_set hh2 6 (.int .i64 x)) 7 (.int .i64 y)
        rw [this]
        simp [eachWA, HC.out.2]
      have hK3 : Keep [ob] W ((w2.setCell ⟨ob, 6, none⟩ (.int .i64 x)).setCell ⟨ob, 7, none⟩ (.int .i64 y)) := ((HB.out.2.1.trans (Keep.of_below (S := []) b2) (by simp)).setCell (.inl (by simp)) _).setCell (.inl (by simp)) _
      have H3 := Lib.hid (And.intro hh3 hK3)
      clear hh2 hh3 hK3 b2
      go_wp2_with fail
      go_roundw
      case measure => simp [intOf]
      case rel => exact ⟨4, by omega, rfl, H3.out.1, H3.out.2⟩
    · have hh : wr.heap[ob]? = some (.cells #[.int .i64 (g 0).1, .int .i64 (g 0).2, .int .i64 (g 1).1, .int .i64 (g 1).2, .int .i64 (g 2).1, .int .i64 (g 2).2, .int .i64 (g 3).1, .int .i64 (g 3).2] 113 (0, 0)) := HB.out.1
      have hr : wr.heap[rb]? = some (.cells #[.int .i64 0, .int .i64 0, .int .i64 0, .int .i64 0, .int .i64 0, .int .i64 0, .int .i64 0, .int .i64 0] 113 (0, 0)) := (HB.out.2.1.block _ (heap_lt HR.out.1) (by simpa using HR.out.2.2.2.1)).trans HR.out.1
      have c0 := (cell_of_heap hh 0).trans rfl
      have c1 := (cell_of_heap hh 1).trans rfl
      have c2 := (cell_of_heap hh 2).trans rfl
      have c3 := (cell_of_heap hh 3).trans rfl
      have c4 := (cell_of_heap hh 4).trans rfl
      have c5 := (cell_of_heap hh 5).trans rfl
      have c6 := (cell_of_heap hh 6).trans rfl
      have c7 := (cell_of_heap hh 7).trans rfl
      have r0 := (cell_of_heap hr 0).trans rfl
      have f0 := frozen_of_heap hr 0
      have r1 := (cell_of_heap hr 1).trans rfl
      have f1 := frozen_of_heap hr 1
      have r2 := (cell_of_heap hr 2).trans rfl
      have f2 := frozen_of_heap hr 2
      have r3 := (cell_of_heap hr 3).trans rfl
      have f3 := frozen_of_heap hr 3
      have r4 := (cell_of_heap hr 4).trans rfl
      have f4 := frozen_of_heap hr 4
      have r5 := (cell_of_heap hr 5).trans rfl
      have f5 := frozen_of_heap hr 5
      have r6 := (cell_of_heap hr 6).trans rfl
      have f6 := frozen_of_heap hr 6
      have r7 := (cell_of_heap hr 7).trans rfl
      have f7 := frozen_of_heap hr 7
      have zo := heap_lt hh
      have zr := heap_lt hr
      have hfin : ((((((((wr.setCell ⟨rb, 0, none⟩ (.int .i64 (g 0).1)).setCell ⟨rb, 1, none⟩ (.int .i64 (g 0).2)).setCell ⟨rb, 2, none⟩ (.int .i64 (g 1).1)).setCell ⟨rb, 3, none⟩ (.int .i64 (g 1).2)).setCell ⟨rb, 4, none⟩ (.int .i64 (g 2).1)).setCell ⟨rb, 5, none⟩ (.int .i64 (g 2).2)).setCell ⟨rb, 6, none⟩ (.int .i64 (g 3).1)).setCell ⟨rb, 7, none⟩ (.int .i64 (g 3).2)).heap[rb]? = some (.cells #[.int .i64 (g 0).1, .int .i64 (g 0).2, .int .i64 (g 1).1, .int .i64 (g 1).2, .int .i64 (g 2).1, .int .i64 (g 2).2, .int .i64 (g 3).1, .int .i64 (g 3).2] 113 (0, 0)) := (heap_set (heap_set (heap_set (heap_set (heap_set (heap_set (heap_set (heap_set hr 0 (.int .i64 (g 0).1)) 1 (.int .i64 (g 0).2)) 2 (.int .i64 (g 1).1)) 3 (.int .i64 (g 1).2)) 4 (.int .i64 (g 2).1)) 5 (.int .i64 (g 2).2)) 6 (.int .i64 (g 3).1)) 7 (.int .i64 (g 3).2))
      have H3 := Lib.hid (And.intro hfin ((((((((HB.out.2.2.setCell (p := ⟨rb, 0, none⟩) hrw (.int .i64 (g 0).1)).setCell (p := ⟨rb, 1, none⟩) hrw (.int .i64 (g 0).2)).setCell (p := ⟨rb, 2, none⟩) hrw (.int .i64 (g 1).1)).setCell (p := ⟨rb, 3, none⟩) hrw (.int .i64 (g 1).2)).setCell (p := ⟨rb, 4, none⟩) hrw (.int .i64 (g 2).1)).setCell (p := ⟨rb, 5, none⟩) hrw (.int .i64 (g 2).2)).setCell (p := ⟨rb, 6, none⟩) hrw (.int .i64 (g 3).1)).setCell (p := ⟨rb, 7, none⟩) hrw (.int .i64 (g 3).2)))
      clear hh hr hfin
      go_wp2_with fail
      exact bodyPost_ret (spans_results (r := 2) rfl H3.out.1 _ rfl) rfl ⟨rfl, H3.out.2⟩

end Go.Proofs.YtalcinepeofmcaaDoor
/- ice: whole, cell, Whole -/
namespace Go.Proofs.YtalcinepeofmcaaDoor
open Go Go.RowKit Go.Lib Sp
set_option linter.unusedVariables false

def celW : Cel := ⟨0, 100, 0, 400, 0, 100, 0, 3⟩
set_option maxRecDepth 100000 in
theorem whole_any (w : World) :
    Calls Tryd.prog 48 #[] w fun e w' => e = .returned (.agg #[.int .i64 0, .int .i64 100, .int .i64 0, .int .i64 400, .int .i64 0, .int .i64 100, .int .i64 0, .int .i64 3]) ∧ Below w.heap.size w w' := by
  have h0 : ∀ wx, Calls Tryd.prog 75 #[.func (.func 76) #[] #[]] wx fun e w' => e = .returned (.agg #[.int .i64 0, .int .i64 100, .int .i64 0, .int .i64 400, .int .i64 0, .int .i64 100, .int .i64 0, .int .i64 3]) ∧ Below wx.heap.size wx w' := fun wx => eachW wholeS wx (fun (k : Nat) hk wy _ => whole1_any k hk wy)
  have H := Lib.hid h0
  clear h0
  obtain ⟨W, hW⟩ : ∃ W, W = w.alloc (.cells #[.int .i64 0, .int .i64 0, .int .i64 0, .int .i64 0, .int .i64 0, .int .i64 0, .int .i64 0, .int .i64 0] 113) := ⟨_, rfl⟩
  obtain ⟨rb, hrb⟩ : ∃ b, b = w.heap.size := ⟨_, rfl⟩
  have hh : W.heap[rb]? = some (.cells #[.int .i64 0, .int .i64 0, .int .i64 0, .int .i64 0, .int .i64 0, .int .i64 0, .int .i64 0, .int .i64 0] 113 (0, 0)) := by rw [hW, hrb]; exact heap_alloc_new _ _
  have bW : Below w.heap.size w W := by rw [hW]; exact (Below.refl _ _).alloc (Nat.le_refl _) _
  have hrw : w.heap.size ≤ rb := by omega
  have HR := Lib.hid (And.intro hh (And.intro bW hrw))
  clear hh bW hrw
  go_enter Tryd.func48, Tryd.ntmps48
  go_upto_region 1 with fail
  rw [← hW, ← hrb]
  clear hW hrb
  go_wp2_with fail
  refine (H.out _).mono ?_
  rintro e w2 ⟨rfl, b2⟩
  have hh := (b2.block _ (heap_lt HR.out.1)).trans HR.out.1
  have c0 := (cell_of_heap hh 0).trans rfl
  have c1 := (cell_of_heap hh 1).trans rfl
  have c2 := (cell_of_heap hh 2).trans rfl
  have c3 := (cell_of_heap hh 3).trans rfl
  have c4 := (cell_of_heap hh 4).trans rfl
  have c5 := (cell_of_heap hh 5).trans rfl
  have c6 := (cell_of_heap hh 6).trans rfl
  have c7 := (cell_of_heap hh 7).trans rfl
  have f0 := frozen_of_heap hh 0
  have f1 := frozen_of_heap hh 1
  have f2 := frozen_of_heap hh 2
  have f3 := frozen_of_heap hh 3
  have f4 := frozen_of_heap hh 4
  have f5 := frozen_of_heap hh 5
  have f6 := frozen_of_heap hh 6
  have f7 := frozen_of_heap hh 7
  have zo := heap_lt hh
  have hfin : ((((((((w2.setCell ⟨rb, 0, none⟩ (.int .i64 0)).setCell ⟨rb, 1, none⟩ (.int .i64 100)).setCell ⟨rb, 2, none⟩ (.int .i64 0)).setCell ⟨rb, 3, none⟩ (.int .i64 400)).setCell ⟨rb, 4, none⟩ (.int .i64 0)).setCell ⟨rb, 5, none⟩ (.int .i64 100)).setCell ⟨rb, 6, none⟩ (.int .i64 0)).setCell ⟨rb, 7, none⟩ (.int .i64 3)).heap[rb]? = some (.cells #[.int .i64 0, .int .i64 100, .int .i64 0, .int .i64 400, .int .i64 0, .int .i64 100, .int .i64 0, .int .i64 3] 113 (0, 0)) := (heap_set (heap_set (heap_set (heap_set (heap_set (heap_set (heap_set (heap_set hh 0 (.int .i64 0)) 1 (.int .i64 100)) 2 (.int .i64 0)) 3 (.int .i64 400)) 4 (.int .i64 0)) 5 (.int .i64 100)) 6 (.int .i64 0)) 7 (.int .i64 3))
  have H3 := Lib.hid (And.intro hfin (((((((((HR.out.2.1.trans (b2.mono HR.out.2.1.size)).setCell (p := ⟨rb, 0, none⟩) HR.out.2.2 (.int .i64 0)).setCell (p := ⟨rb, 1, none⟩) HR.out.2.2 (.int .i64 100)).setCell (p := ⟨rb, 2, none⟩) HR.out.2.2 (.int .i64 0)).setCell (p := ⟨rb, 3, none⟩) HR.out.2.2 (.int .i64 400)).setCell (p := ⟨rb, 4, none⟩) HR.out.2.2 (.int .i64 0)).setCell (p := ⟨rb, 5, none⟩) HR.out.2.2 (.int .i64 100)).setCell (p := ⟨rb, 6, none⟩) HR.out.2.2 (.int .i64 0)).setCell (p := ⟨rb, 7, none⟩) HR.out.2.2 (.int .i64 3)))
  clear hfin
  clear hh b2
  go_wp2_with fail
  exact bodyPost_ret (spans_results (r := 0) rfl H3.out.1 _ rfl) rfl ⟨rfl, H3.out.2⟩

set_option maxRecDepth 100000 in
theorem cell_any (x : Cel) (w : World) :
    Calls Tryd.prog 49 #[.agg (celA x)] w fun e w' => e = .returned (.agg (celA x)) ∧ Below w.heap.size w w' := by
  go_enter Tryd.func49, Tryd.ntmps49
  go_wp2_with fail
  exact bodyPost_ret (v := .agg (celA x)) (by simp [results, Tryd.results49, go_sem]) rfl ⟨rfl, ((Below.refl _ _).alloc (Nat.le_refl _) _).alloc (by simp) _⟩
set_option maxRecDepth 100000 in
theorem Whole_any (w : World) :
    Calls Tryd.prog 18 #[] w fun e w' => e = .returned (.agg #[.int .i64 0, .int .i64 100, .int .i64 0, .int .i64 400, .int .i64 0, .int .i64 100, .int .i64 0, .int .i64 3]) ∧ Below w.heap.size w w' := by
  have h0 : ∀ wx, Calls Tryd.prog 49 #[.agg #[.int .i64 0, .int .i64 100, .int .i64 0, .int .i64 400, .int .i64 0, .int .i64 100, .int .i64 0, .int .i64 3]] wx fun e w' => e = .returned (.agg #[.int .i64 0, .int .i64 100, .int .i64 0, .int .i64 400, .int .i64 0, .int .i64 100, .int .i64 0, .int .i64 3]) ∧ Below wx.heap.size wx w' := fun wx => cell_any celW wx
  have H := Lib.hid h0
  clear h0
  obtain ⟨W, hW⟩ : ∃ W, W = w.alloc (.cells #[.int .i64 0, .int .i64 0, .int .i64 0, .int .i64 0, .int .i64 0, .int .i64 0, .int .i64 0, .int .i64 0] 30) := ⟨_, rfl⟩
  obtain ⟨rb, hrb⟩ : ∃ b, b = w.heap.size := ⟨_, rfl⟩
  have hh : W.heap[rb]? = some (.cells #[.int .i64 0, .int .i64 0, .int .i64 0, .int .i64 0, .int .i64 0, .int .i64 0, .int .i64 0, .int .i64 0] 30 (0, 0)) := by rw [hW, hrb]; exact heap_alloc_new _ _
  have bW : Below w.heap.size w W := by rw [hW]; exact (Below.refl _ _).alloc (Nat.le_refl _) _
  have hrw : w.heap.size ≤ rb := by omega
  have HR := Lib.hid (And.intro hh (And.intro bW hrw))
  clear hh bW hrw
  go_enter Tryd.func18, Tryd.ntmps18
  go_upto_region 1 with fail
  rw [← hW, ← hrb]
  clear hW hrb
  go_wp2_with fail
  refine (whole_any _).mono ?_
  rintro e w1 ⟨rfl, b1⟩
  go_wp2_with fail
  refine (H.out _).mono ?_
  rintro e w2 ⟨rfl, b2⟩
  have b12 := b1.trans (b2.mono b1.size)
  have hh := (b12.block _ (heap_lt HR.out.1)).trans HR.out.1
  have c0 := (cell_of_heap hh 0).trans rfl
  have c1 := (cell_of_heap hh 1).trans rfl
  have c2 := (cell_of_heap hh 2).trans rfl
  have c3 := (cell_of_heap hh 3).trans rfl
  have c4 := (cell_of_heap hh 4).trans rfl
  have c5 := (cell_of_heap hh 5).trans rfl
  have c6 := (cell_of_heap hh 6).trans rfl
  have c7 := (cell_of_heap hh 7).trans rfl
  have f0 := frozen_of_heap hh 0
  have f1 := frozen_of_heap hh 1
  have f2 := frozen_of_heap hh 2
  have f3 := frozen_of_heap hh 3
  have f4 := frozen_of_heap hh 4
  have f5 := frozen_of_heap hh 5
  have f6 := frozen_of_heap hh 6
  have f7 := frozen_of_heap hh 7
  have zo := heap_lt hh
  have hfin : ((((((((w2.setCell ⟨rb, 0, none⟩ (.int .i64 0)).setCell ⟨rb, 1, none⟩ (.int .i64 100)).setCell ⟨rb, 2, none⟩ (.int .i64 0)).setCell ⟨rb, 3, none⟩ (.int .i64 400)).setCell ⟨rb, 4, none⟩ (.int .i64 0)).setCell ⟨rb, 5, none⟩ (.int .i64 100)).setCell ⟨rb, 6, none⟩ (.int .i64 0)).setCell ⟨rb, 7, none⟩ (.int .i64 3)).heap[rb]? = some (.cells #[.int .i64 0, .int .i64 100, .int .i64 0, .int .i64 400, .int .i64 0, .int .i64 100, .int .i64 0, .int .i64 3] 30 (0, 0)) := (heap_set (heap_set (heap_set (heap_set (heap_set (heap_set (heap_set (heap_set hh 0 (.int .i64 0)) 1 (.int .i64 100)) 2 (.int .i64 0)) 3 (.int .i64 400)) 4 (.int .i64 0)) 5 (.int .i64 100)) 6 (.int .i64 0)) 7 (.int .i64 3))
  have H3 := Lib.hid (And.intro hfin (((((((((HR.out.2.1.trans (b12.mono HR.out.2.1.size)).setCell (p := ⟨rb, 0, none⟩) HR.out.2.2 (.int .i64 0)).setCell (p := ⟨rb, 1, none⟩) HR.out.2.2 (.int .i64 100)).setCell (p := ⟨rb, 2, none⟩) HR.out.2.2 (.int .i64 0)).setCell (p := ⟨rb, 3, none⟩) HR.out.2.2 (.int .i64 400)).setCell (p := ⟨rb, 4, none⟩) HR.out.2.2 (.int .i64 0)).setCell (p := ⟨rb, 5, none⟩) HR.out.2.2 (.int .i64 100)).setCell (p := ⟨rb, 6, none⟩) HR.out.2.2 (.int .i64 0)).setCell (p := ⟨rb, 7, none⟩) HR.out.2.2 (.int .i64 3)))
  clear hfin
  clear hh b12 b1 b2
  go_wp2_with fail
  exact bodyPost_ret (celA_results (r := 0) rfl H3.out.1 _ rfl) rfl ⟨rfl, H3.out.2⟩
end Go.Proofs.YtalcinepeofmcaaDoor
/- ice: all over has$1 and CheckRates$1 (printed by wip/tools/alln.py) -/
namespace Go.Proofs.YtalcinepeofmcaaDoor
open Go Go.RowKit Sp
set_option linter.unusedVariables false


end Go.Proofs.YtalcinepeofmcaaDoor
/- ice: has, wrong of ices, Holds -/
namespace Go.Proofs.YtalcinepeofmcaaDoor
open Go Go.RowKit Sp
set_option linter.unusedVariables false
set_option linter.unusedSimpArgs false

def celLoN (x : Cel) : Nat → Int
  | 0 => x.a0
  | 1 => x.b0
  | 2 => x.c0
  | _ => x.d0
def celHiN (x : Cel) : Nat → Int
  | 0 => x.a1
  | 1 => x.b1
  | 2 => x.c1
  | _ => x.d1
def hasN (x : Cel) (i : Ice) (k : Nat) : Bool := within (iceN i k) (celLoN x k) (celHiN x k)
def hasB (x : Cel) (i : Ice) : Bool := hasN x i 0 && hasN x i 1 && hasN x i 2 && hasN x i 3



def ics (l : List Ice) : List Value := l.flatMap fun i => [.int .i64 i.con, .int .i64 i.thk, .int .i64 i.rid, .int .i64 i.prs]
theorem ics_get {l : List Ice} {k : Nat} (hk : k < l.length) : (ics l)[k*4]? = some (.int .i64 l[k].con) ∧ (ics l)[k*4+1]? = some (.int .i64 l[k].thk) ∧ (ics l)[k*4+2]? = some (.int .i64 l[k].rid) ∧ (ics l)[k*4+3]? = some (.int .i64 l[k].prs) := by
  induction l generalizing k with
  | nil => simp at hk
  | cons s l ih =>
    cases k with
    | zero => simp [ics]
    | succ k =>
      have h4 : ∀ j, (ics (s :: l))[4 + j]? = (ics l)[j]? := fun j => by
        simp only [ics, List.flatMap_cons]
        rw [List.getElem?_append_right (by simp)]
        simp
      have e : ∀ j, (k+1)*4 + j = 4 + (k*4 + j) := fun j => by omega
      have e0 : (k+1)*4 = 4 + k*4 := by omega
      have hk' : k < l.length := by simpa using hk
      rw [e, e, e, e0, h4, h4, h4, h4]
      simpa using ih hk'


/-- each ice is in its cell -/
def holdAll (l : List Cel) (f : List Ice) : Prop := f.length = l.length ∧ ∀ k (h1 : k < f.length) (h2 : k < l.length), hasB l[k] f[k] = true ∧ iceOk f[k] = true
end Go.Proofs.YtalcinepeofmcaaDoor
/- polynyalaw03.Frozen, Some: what they give lies within the limits (printed by wip/tools/fz.py) -/
namespace Go.Proofs.YtalcinepeofmcaaDoor
open Go Go.RowKit Go.Lib Sp
set_option linter.unusedVariables false
set_option linter.unusedSimpArgs false

/-- the state of a walk that draws numbers: the function's cells, and blocks of S -/
structure FzW (D : Nat) (W0 : World) (ib lb nb : Nat) (S : List Nat) (w : World) : Prop where
  kp : Keep (ib :: S) W0 w
  nx : NxS D w ib lb
  fn : w.cell? ⟨nb, 0, none⟩ = some (.func (.func 45) #[] #[.pointer (some ⟨ib, 0, none⟩), .pointer (some ⟨lb, 0, none⟩)])
theorem FzW.call {D : Nat} {W0 w w' : World} {ib lb nb : Nat} {S : List Nat} (h : FzW D W0 ib lb nb S w) (hn : NxS D w' ib lb) (hk : Keep [ib] w w') (hb : nb ≠ ib) : FzW D W0 ib lb nb S w' :=
  ⟨h.kp.trans hk (fun x hx => .inl (by simp at hx; simp [hx])), hn, hk.cell h.fn (by simpa using hb)⟩
theorem FzW.keep {D : Nat} {W0 w w' : World} {ib lb nb : Nat} {S T : List Nat} (h : FzW D W0 ib lb nb S w) (hk : Keep T w w') (hT : ∀ x ∈ T, (x ∈ S ∨ W0.heap.size ≤ x) ∧ D ≤ x ∧ x ≠ ib ∧ x ≠ lb ∧ x ≠ nb) : FzW D W0 ib lb nb S w' :=
  ⟨h.kp.trans hk (fun x hx => by rcases (hT x hx).1 with e | e; exact .inl (by simp [e]); exact .inr e), h.nx.keep hk (fun x hx => ⟨(hT x hx).2.1, (hT x hx).2.2.1, (hT x hx).2.2.2.1⟩), hk.cell h.fn (fun e => (hT _ e).2.2.2.2 rfl)⟩
theorem FzW.start {D : Nat} {W0 : World} {ib lb nb : Nat} {S : List Nat} (hn : NxS D W0 ib lb) (hf : W0.cell? ⟨nb, 0, none⟩ = some (.func (.func 45) #[] #[.pointer (some ⟨ib, 0, none⟩), .pointer (some ⟨lb, 0, none⟩)])) : FzW D W0 ib lb nb S W0.drew :=
  ⟨(Keep.refl _ _).drew, hn.keep (S := []) ((Keep.refl _ _).drew) (by simp), hf⟩

set_option linter.unusedVariables false
def FaV (D : Nat) (W0 : World) (ib lb nb : Nat) (st wd m q : Int) (s : Int × Nat) : Nat → Value → Prop
  | 0, v => v = .int .i64 0
  | 1, v => v = .int .i64 st
  | 2, v => v = .func (.func 45) #[] #[.pointer (some ⟨ib, 0, none⟩), .pointer (some ⟨lb, 0, none⟩)]
  | 3, v => v = .int .i64 m
  | 4, v => v = .int .i64 st
  | 5, v => v = .int .i64 q
  | 6, v => v = .int .i64 (q + 1)
  | 7, v => v = .int .i64 0
  | 8, v => v = .int .i64 st
  | 9, v => v = .int .i64 0
  | 10, v => v = .int .i64 (q + 1)
  | 11, v => v = .int .i64 s.1
  | 12, v => v = .int .i64 (st * s.1)
  | 13, v => v = .int .i64 (st * s.1)
  | 14, v => v = .agg #[.int .i64 (st * s.1), .int .i64 0]
  | 15, v => v = .pointer (some ⟨s.2, 0, none⟩)
  | _, _ => True
def FaW (D : Nat) (W0 : World) (ib lb nb : Nat) (st wd m q : Int) (s : Int × Nat) (l : Nat → Bool) (w : World) : Prop := FzW D W0 ib lb nb [] w ∧ (l 11 = true → 0 ≤ s.1 ∧ s.1 ≤ q) ∧ (l 15 = true → W0.heap.size ≤ s.2 ∧ w.heap[s.2]? = some (.cells (if l 16 then #[.int .i64 (st * s.1), .int .i64 0] else #[.int .i64 0, .int .i64 0]) 28 (0, 0)))
set_option linter.unusedVariables false
def FbV (D : Nat) (W0 : World) (ib lb nb sb : Nat) (wd m lo : Int) (s : Int) : Nat → Value → Prop
  | 0, v => v = .int .i64 m
  | 1, v => v = .pointer (some ⟨sb, 0, none⟩)
  | 2, v => v = .int .i64 lo
  | 3, v => v = .func (.func 45) #[] #[.pointer (some ⟨ib, 0, none⟩), .pointer (some ⟨lb, 0, none⟩)]
  | 4, v => v = .int .i64 wd
  | 5, v => v = .int .i64 s
  | 6, v => v = .int .i64 (lo + s)
  | 7, v => v = .int .i64 (if lo + s < m then lo + s else m)
  | 8, v => v = .pointer (some ⟨sb, 1, none⟩)
  | _, _ => True
def FbW (D : Nat) (W0 : World) (ib lb nb sb : Nat) (wd m lo : Int) (s : Int) (l : Nat → Bool) (w : World) : Prop := FzW D W0 ib lb nb [sb] w ∧ (l 5 = true → 0 ≤ s ∧ s < wd) ∧ w.heap[sb]? = some (.cells (if l 9 then #[.int .i64 lo, .int .i64 (if lo + s < m then lo + s else m)] else #[.int .i64 lo, .int .i64 0]) 28 (0, 0))

def SpanPost (D : Nat) (w : World) (ib lb : Nat) (m : Int) (e : Ending) (w' : World) : Prop := ∃ lo hi : Int, e = .returned (.agg #[.int .i64 lo, .int .i64 hi]) ∧ (0 ≤ lo ∧ lo ≤ hi ∧ hi ≤ m) ∧ NxS D w' ib lb ∧ Keep [ib] w w'
set_option maxRecDepth 100000 in
set_option maxHeartbeats 4000000 in
theorem frozen1_any (D ib lb nb : Nat) (st wd m q : Int) (hq : Int.tdiv m st = q) (hst : 1 ≤ st ∧ st ≤ 10) (hm : 0 ≤ m ∧ m ≤ 900) (hqq : 0 ≤ q ∧ q ≤ 900 ∧ st * q ≤ m) (hwd : 1 ≤ wd ∧ wd ≤ 1000) (w : World) (hn : NxS D w ib lb) (hf : w.cell? ⟨nb, 0, none⟩ = some (.func (.func 45) #[] #[.pointer (some ⟨ib, 0, none⟩), .pointer (some ⟨lb, 0, none⟩)])) (hnb : nb ≠ ib) :
    Calls Tryd.prog 15 #[.int .i64 0, .int .i64 st, .int .i64 wd, .int .i64 m, .pointer (some ⟨nb, 0, none⟩)] w (SpanPost D w ib lb m) := by
  obtain ⟨W, hW⟩ : ∃ W, W = w.alloc (.cells #[.int .i64 0, .int .i64 0] 28) := ⟨_, rfl⟩
  obtain ⟨rb, hrb⟩ : ∃ b, b = w.heap.size := ⟨_, rfl⟩
  have hrh : W.heap[rb]? = some (.cells #[.int .i64 0, .int .i64 0] 28 (0, 0)) := by rw [hW, hrb]; exact heap_alloc_new _ _
  have bW : Below w.heap.size w W := by rw [hW]; exact (Below.refl _ _).alloc (Nat.le_refl _) _
  have hz : W.heap.size = rb + 1 := by rw [hW, hrb]; simp
  have hlt := hn.lt
  have hnl : nb < w.heap.size := World.block_lt_of_cell? _ _ hf
  have HN := Lib.hid (And.intro hnb (And.intro (show ib < W.heap.size ∧ lb < W.heap.size ∧ nb < W.heap.size ∧ D ≤ ib ∧ D ≤ W.heap.size from by omega) (And.intro (show ib ≠ rb ∧ lb ≠ rb ∧ nb ≠ rb ∧ rb < W.heap.size from by omega) (And.intro (show w.heap.size ≤ rb by omega) (And.intro hrh (And.intro (hn.below bW) ((bW.cell hnl).trans hf)))))))
  have HW := Lib.hid bW
  have HQ := Lib.hid (And.intro hq hqq.2.2)
  obtain ⟨st1, st2⟩ := hst
  obtain ⟨m1, m2⟩ := hm
  obtain ⟨q1, q2, _⟩ := hqq
  obtain ⟨wd1, wd2⟩ := hwd
  clear hrh bW hn hf hnb hlt hnl hq
  go_enter Tryd.func15, Tryd.ntmps15
  go_upto_region 1 with fail
  rw [← hW, ← hrb]
  clear hW hrb
  refine wp_region_steps (σ := Int × Nat) (by kernel_rfl) (by kernel_rfl) (fun sg jx vx _ => FaV D W ib lb nb st wd m q sg jx vx) (fun sg ly wx => FaW D W ib lb nb st wd m q sg ly wx) (0, 0) ?_ ?_ ?_
  · exact ⟨FzW.start HN.out.2.2.2.2.2.1 HN.out.2.2.2.2.2.2, (fun h => by cases h), (fun h => by cases h)⟩
  · simp only [AllFrom, Nat.zero_add, Nat.reduceAdd]
    refine ⟨?_, ?_, ?_, ?_, ?_, ?_, ?_, ?_, ?_, ?_, ?_, ?_, ?_, ?_, ?_, ?_, ?_, trivial⟩
    · refine step_pure fun sg ly a wr hl hd hW hF => ?_
      have et0 := hF.old 0 (by kernel_rfl)
      simp [Act.eval] at et0
      exact ⟨by simpa [FaW, upd] using hW, .int .i64 0, by go_simp, rfl⟩
    · refine step_pure fun sg ly a wr hl hd hW hF => ?_
      have et1 := hF.old 1 (by kernel_rfl)
      simp [Act.eval] at et1
      exact ⟨by simpa [FaW, upd] using hW, .int .i64 st, by go_simp, rfl⟩
    · refine step_pure fun sg ly a wr hl hd hW hF => ?_
      have et4 := hF.old 4 (by kernel_rfl)
      simp [Act.eval] at et4
      have c0 := hW.1.fn
      exact ⟨by simpa [FaW, upd] using hW, _, by go_simp, rfl⟩
    · refine step_pure fun sg ly a wr hl hd hW hF => ?_
      have et3 := hF.old 3 (by kernel_rfl)
      simp [Act.eval] at et3
      exact ⟨by simpa [FaW, upd] using hW, .int .i64 m, by go_simp, rfl⟩
    · refine step_pure fun sg ly a wr hl hd hW hF => ?_
      have et1 := hF.old 1 (by kernel_rfl)
      simp [Act.eval] at et1
      exact ⟨by simpa [FaW, upd] using hW, .int .i64 st, by go_simp, rfl⟩
    · refine step_pure fun sg ly a wr hl hd hW hF => ?_
      simp [Region.binds] at hd
      have et14 := hF.new 3 14 (by simp [hd]) rfl
      simp [FaV, Act.eval] at et14
      have et15 := hF.new 4 15 (by simp [hd]) rfl
      simp [FaV, Act.eval] at et15
      have hq1 := HQ.out.1
      have n0 : ¬ st = 0 := by omega
      have ew := IntWalk.i64_in q (by omega)
      exact ⟨by simpa [FaW, upd] using hW, .int .i64 q, by go_simp, rfl⟩
    · refine step_pure fun sg ly a wr hl hd hW hF => ?_
      simp [Region.binds] at hd
      have et16 := hF.new 5 16 (by simp [hd]) rfl
      simp [FaV, Act.eval] at et16
      have ew := IntWalk.i64_in (q + 1) (by omega)
      exact ⟨by simpa [FaW, upd] using hW, .int .i64 (q + 1), by go_simp, rfl⟩
    · refine step_pure fun sg ly a wr hl hd hW hF => ?_
      have et0 := hF.old 0 (by kernel_rfl)
      simp [Act.eval] at et0
      exact ⟨by simpa [FaW, upd] using hW, .int .i64 0, by go_simp, rfl⟩
    · refine step_pure fun sg ly a wr hl hd hW hF => ?_
      have et1 := hF.old 1 (by kernel_rfl)
      simp [Act.eval] at et1
      exact ⟨by simpa [FaW, upd] using hW, .int .i64 st, by go_simp, rfl⟩
    · refine step_pure fun sg ly a wr hl hd hW hF => ?_
      simp [Region.binds] at hd
      have et18 := hF.new 7 18 (by simp [hd]) rfl
      simp [FaV, Act.eval] at et18
      have et19 := hF.new 8 19 (by simp [hd]) rfl
      simp [FaV, Act.eval] at et19
      have n0 : ¬ st = 0 := by omega
      have ew : IntKind.i64.wrap 0 = 0 := rfl
      exact ⟨by simpa [FaW, upd] using hW, .int .i64 0, by go_simp, rfl⟩
    · refine step_pure fun sg ly a wr hl hd hW hF => ?_
      simp [Region.binds] at hd
      have et17 := hF.new 6 17 (by simp [hd]) rfl
      simp [FaV, Act.eval] at et17
      have et20 := hF.new 9 20 (by simp [hd]) rfl
      simp [FaV, Act.eval] at et20
      have ew := IntWalk.i64_in (q + 1) (by omega)
      exact ⟨by simpa [FaW, upd] using hW, .int .i64 (q + 1), by go_simp, rfl⟩
    · refine step_call fun sg ly a wr hl hd hW hF => ?_
      simp [Region.binds] at hd
      have et13 := hF.new 2 13 (by simp [hd]) rfl
      simp [FaV, Act.eval] at et13
      have et21 := hF.new 10 21 (by simp [hd]) rfl
      simp [FaV, Act.eval] at et21
      have n12 := hF.notYet 11 12 hl (by kernel_rfl)
      have n13_12 := hF.notYet 11 12 hl (by kernel_rfl)
      have n13 := hF.notYet 12 13 n13_12 (by kernel_rfl)
      have n14_12 := hF.notYet 11 12 hl (by kernel_rfl)
      have n14_13 := hF.notYet 12 13 n14_12 (by kernel_rfl)
      have n14 := hF.notYet 13 14 n14_13 (by kernel_rfl)
      have n16_12 := hF.notYet 11 12 hl (by kernel_rfl)
      have n16_13 := hF.notYet 12 13 n16_12 (by kernel_rfl)
      have n16_14 := hF.notYet 13 14 n16_13 (by kernel_rfl)
      have n16 := hF.notYet 14 16 n16_14 (by kernel_rfl)
      refine ⟨45, #[.int .i64 (q + 1), .pointer (some ⟨ib, 0, none⟩), .pointer (some ⟨lb, 0, none⟩)], by go_simp, ?_⟩
      refine (next_some (q + 1) hW.1.nx (by omega)).mono ?_
      rintro e w2 ⟨x, rfl, ⟨x1, x2⟩, x3, x4, x5⟩
      refine ⟨_, (x, sg.2), rfl, ⟨hW.1.call x3 x4 HN.out.1, fun _ => ⟨x1, by simp only; omega⟩, ?_⟩, rfl, ?_⟩
      · rw [show upd ly 11 15 = ly 15 from rfl, show upd ly 11 16 = ly 16 from rfl, n16]
        intro e15
        have hh := hW.2.2 e15
        rw [n16] at hh
        exact ⟨hh.1, (x4.block _ (heap_lt hh.2) (by have := hW.1.kp.size; have := HN.out.2; simp; omega)).trans hh.2⟩
      · intro i u hi h
        have i11 : i ≠ 11 := by rintro rfl; rw [hl] at hi; cases hi
        have i12 : i ≠ 12 := by rintro rfl; rw [n12] at hi; cases hi
        have i13 : i ≠ 13 := by rintro rfl; rw [n13] at hi; cases hi
        have i14 : i ≠ 14 := by rintro rfl; rw [n14] at hi; cases hi
        unfold FaV at h ⊢
        split at h <;> first | exact h | exact absurd rfl i11 | exact absurd rfl i12 | exact absurd rfl i13 | exact absurd rfl i14
    · refine step_pure fun sg ly a wr hl hd hW hF => ?_
      simp [Region.binds] at hd
      have et12 := hF.new 1 12 (by simp [hd]) rfl
      simp [FaV, Act.eval] at et12
      have et22 := hF.new 11 22 (by simp [hd]) rfl
      simp [FaV, Act.eval] at et22
      have y0 : ly 11 = true := by simp [hd]
      obtain ⟨y1, y2⟩ := hW.2.1 y0
      have y3 := Int.mul_nonneg (show (0 : Int) ≤ st by omega) y1
      have y4 := Int.mul_le_mul_of_nonneg_left y2 (show (0 : Int) ≤ st by omega)
      have y5 := HQ.out.2
      have ew := IntWalk.i64_in (st * sg.1) (by omega)
      exact ⟨by simpa [FaW, upd] using hW, .int .i64 (st * sg.1), by go_simp, rfl⟩
    · refine step_pure fun sg ly a wr hl hd hW hF => ?_
      simp [Region.binds] at hd
      have et11 := hF.new 0 11 (by simp [hd]) rfl
      simp [FaV, Act.eval] at et11
      have et23 := hF.new 12 23 (by simp [hd]) rfl
      simp [FaV, Act.eval] at et23
      have y0 := hF.before 11 12 (by simp [hd]) (by kernel_rfl)
      obtain ⟨y1, y2⟩ := hW.2.1 y0
      have y3 := Int.mul_nonneg (show (0 : Int) ≤ st by omega) y1
      have y4 := Int.mul_le_mul_of_nonneg_left y2 (show (0 : Int) ≤ st by omega)
      have y5 := HQ.out.2
      have ew := IntWalk.i64_in (st * sg.1) (by omega)
      exact ⟨by simpa [FaW, upd] using hW, .int .i64 (st * sg.1), by go_simp, rfl⟩
    · refine step_pure fun sg ly a wr hl hd hW hF => ?_
      simp [Region.binds] at hd
      have et24 := hF.new 13 24 (by simp [hd]) rfl
      simp [FaV, Act.eval] at et24
      exact ⟨by simpa [FaW, upd] using hW, .agg #[.int .i64 (st * sg.1), .int .i64 0], by go_simp, rfl⟩
    · refine step_run fun sg ly a wr hl hd hW hF => ?_
      have n16 := hF.notYet 15 16 hl (by kernel_rfl)
      have ka : Keep [] wr (wr.alloc (.cells #[.int .i64 0, .int .i64 0] 28)) := (Keep.refl _ _).alloc _
      refine ⟨_, wr.alloc (.cells #[.int .i64 0, .int .i64 0] 28), (sg.1, wr.heap.size), by go_simp, ⟨hW.1.keep ka (by simp), hW.2.1, fun _ => ⟨hW.1.kp.size, by rw [show upd ly 15 16 = ly 16 from rfl, n16]; exact heap_alloc_new _ _⟩⟩, rfl, ?_⟩
      intro i u hi h
      have i15 : i ≠ 15 := by rintro rfl; rw [hl] at hi; cases hi
      unfold FaV at h ⊢
      split at h <;> first | exact h | exact absurd rfl i15
    · refine step_store rfl fun sg ly a wr hl hd hW hF => ?_
      simp [Region.binds] at hd
      have et10 := hF.new 15 10 (by simp [hd]) rfl
      simp [FaV, Act.eval] at et10
      have et25 := hF.new 14 25 (by simp [hd]) rfl
      simp [FaV, Act.eval] at et25
      have y := hW.2.2 (by simp [hd])
      rw [hl] at y
      have hh := y.2
      have c0 := (cell_of_heap hh 0).trans rfl
      have c1 := (cell_of_heap hh 1).trans rfl
      have f0 := frozen_of_heap hh 0
      have f1 := frozen_of_heap hh 1
      have zq := heap_lt hh
      refine ⟨(wr.setCell ⟨sg.2, 0, none⟩ (.int .i64 (st * sg.1))).setCell ⟨sg.2, 1, none⟩ (.int .i64 0), sg, .skip, by go_simp, .inl rfl, ⟨hW.1.keep (T := [sg.2]) (((Keep.refl _ _).setCell (.inl (by simp)) _).setCell (.inl (by simp)) _) ?_, hW.2.1, fun _ => ⟨y.1, by rw [if_pos (by simp [upd])]; exact heap_set (heap_set hh 0 _) 1 _⟩⟩, fun _ _ _ h => h⟩
      intro z hz
      rw [List.mem_singleton.1 hz]
      have := HN.out.2
      exact ⟨.inr y.1, by omega, by omega, by omega, by omega⟩
  intro sg a w5 hWW hF
  have e10 := hF.new 15 10 (by decide) rfl
  obtain ⟨f, hf, rfl⟩ := hF.lit
  rw [← hf] at e10
  simp only [FaV] at e10
  obtain ⟨x1, x2⟩ := hWW.2.1 rfl
  obtain ⟨g1, g2⟩ := hWW.2.2 rfl
  simp only [List.length_cons, List.length_nil, Nat.reduceAdd, Nat.reduceLT, decide_true, if_true] at g2
  obtain ⟨lo, hlo⟩ : ∃ lo, lo = st * sg.1 := ⟨_, rfl⟩
  have y3 := Int.mul_nonneg (show (0 : Int) ≤ st by omega) x1
  have y4 := Int.mul_le_mul_of_nonneg_left x2 (show (0 : Int) ≤ st by omega)
  have y5 := HQ.out.2
  have lo1 : 0 ≤ lo ∧ lo ≤ m := by omega
  obtain ⟨lo1, lo2⟩ := lo1
  rw [← hlo] at g2
  have H5 := Lib.hid (And.intro g2 (And.intro hWW.1 g1))
  have HSB := Lib.hid (show sg.2 ≠ ib ∧ sg.2 ≠ lb ∧ sg.2 ≠ nb ∧ D ≤ sg.2 from by have := HN.out.2.1; omega)
  clear hf hF hWW x1 x2 g1 g2 hlo y3 y4 y5
  simp only [List.filterMap, List.foldl, List.setIfInBounds_toArray, List.set_cons_succ, List.set_cons_zero, e10]
  clear e10
  obtain ⟨sb, hsb⟩ : ∃ sb, sb = sg.2 := ⟨_, rfl⟩
  rw [← hsb] at H5 HSB ⊢
  clear hsb
  go_upto_region 2 with fail
  refine wp_region_steps (σ := Int) (by kernel_rfl) (by kernel_rfl) (fun sg jx vx _ => FbV D w5 ib lb nb sb wd m lo sg jx vx) (fun sg ly wx => FbW D w5 ib lb nb sb wd m lo sg ly wx) 0 ?_ ?_ ?_
  · exact ⟨FzW.start H5.out.2.1.nx H5.out.2.1.fn, (fun h => by cases h), by rw [if_neg (by simp)]; exact H5.out.1⟩
  · simp only [AllFrom, Nat.zero_add, Nat.reduceAdd]
    refine ⟨?_, ?_, ?_, ?_, ?_, ?_, ?_, ?_, ?_, ?_, trivial⟩
    · refine step_pure fun sg ly a wr hl hd hW hF => ?_
      have et3 := hF.old 3 (by kernel_rfl)
      simp [Act.eval] at et3
      exact ⟨by simpa [FbW, upd] using hW, .int .i64 m, by go_simp, rfl⟩
    · refine step_pure fun sg ly a wr hl hd hW hF => ?_
      have et10 := hF.old 10 (by kernel_rfl)
      simp [Act.eval] at et10
      exact ⟨by simpa [FbW, upd] using hW, .pointer (some ⟨sb, 0, none⟩), by go_simp, rfl⟩
    · refine step_pure fun sg ly a wr hl hd hW hF => ?_
      simp [Region.binds] at hd
      have et27 := hF.new 1 27 (by simp [hd]) rfl
      simp [FbV, Act.eval] at et27
      have n9_6 := hF.notYet 2 6 hl (by kernel_rfl)
      have n9_7 := hF.notYet 6 7 n9_6 (by kernel_rfl)
      have n9 := hF.notYet 7 9 n9_7 (by kernel_rfl)
      have hh := hW.2.2
      rw [if_neg (by simp [n9])] at hh
      have c0 := (cell_of_heap hh 0).trans rfl
      exact ⟨by simpa [FbW, upd] using hW, _, by go_simp, rfl⟩
    · refine step_pure fun sg ly a wr hl hd hW hF => ?_
      have et4 := hF.old 4 (by kernel_rfl)
      simp [Act.eval] at et4
      have c0 := hW.1.fn
      exact ⟨by simpa [FbW, upd] using hW, _, by go_simp, rfl⟩
    · refine step_pure fun sg ly a wr hl hd hW hF => ?_
      have et2 := hF.old 2 (by kernel_rfl)
      simp [Act.eval] at et2
      exact ⟨by simpa [FbW, upd] using hW, .int .i64 wd, by go_simp, rfl⟩
    · refine step_call fun sg ly a wr hl hd hW hF => ?_
      simp [Region.binds] at hd
      have et29 := hF.new 3 29 (by simp [hd]) rfl
      simp [FbV, Act.eval] at et29
      have et30 := hF.new 4 30 (by simp [hd]) rfl
      simp [FbV, Act.eval] at et30
      have n6 := hF.notYet 5 6 hl (by kernel_rfl)
      have n7_6 := hF.notYet 5 6 hl (by kernel_rfl)
      have n7 := hF.notYet 6 7 n7_6 (by kernel_rfl)
      have n9_6 := hF.notYet 5 6 hl (by kernel_rfl)
      have n9_7 := hF.notYet 6 7 n9_6 (by kernel_rfl)
      have n9 := hF.notYet 7 9 n9_7 (by kernel_rfl)
      refine ⟨45, #[.int .i64 wd, .pointer (some ⟨ib, 0, none⟩), .pointer (some ⟨lb, 0, none⟩)], by go_simp, ?_⟩
      refine (next_some wd hW.1.nx (by omega)).mono ?_
      rintro e w2 ⟨x, rfl, x2, x3, x4, x5⟩
      refine ⟨_, x, rfl, ⟨hW.1.call x3 x4 HN.out.1, fun _ => x2, ?_⟩, rfl, ?_⟩
      · have hh := hW.2.2
        rw [n9] at hh
        rw [show upd ly 5 9 = ly 9 from rfl, n9]
        exact (x4.block _ (heap_lt hh) (by have := HSB.out; simp; omega)).trans hh
      · intro i u hi h
        have i5 : i ≠ 5 := by rintro rfl; rw [hl] at hi; cases hi
        have i6 : i ≠ 6 := by rintro rfl; rw [n6] at hi; cases hi
        have i7 : i ≠ 7 := by rintro rfl; rw [n7] at hi; cases hi
        unfold FbV at h ⊢
        split at h <;> first | exact h | exact absurd rfl i5 | exact absurd rfl i6 | exact absurd rfl i7
    · refine step_pure fun sg ly a wr hl hd hW hF => ?_
      simp [Region.binds] at hd
      have et28 := hF.new 2 28 (by simp [hd]) rfl
      simp [FbV, Act.eval] at et28
      have et31 := hF.new 5 31 (by simp [hd]) rfl
      simp [FbV, Act.eval] at et31
      have y0 : ly 5 = true := by simp [hd]
      obtain ⟨y1, y2⟩ := hW.2.1 y0
      have ew := IntWalk.i64_in (lo + sg) (by omega)
      exact ⟨by simpa [FbW, upd] using hW, .int .i64 (lo + sg), by go_simp, rfl⟩
    · refine step_pure fun sg ly a wr hl hd hW hF => ?_
      simp [Region.binds] at hd
      have et26 := hF.new 0 26 (by simp [hd]) rfl
      simp [FbV, Act.eval] at et26
      have et32 := hF.new 6 32 (by simp [hd]) rfl
      simp [FbV, Act.eval] at et32
      exact ⟨by simpa [FbW, upd] using hW, .int .i64 (if lo + sg < m then lo + sg else m), by go_simp, rfl⟩
    · refine step_pure fun sg ly a wr hl hd hW hF => ?_
      have et10 := hF.old 10 (by kernel_rfl)
      simp [Act.eval] at et10
      exact ⟨by simpa [FbW, upd] using hW, .pointer (some ⟨sb, 1, none⟩), by go_simp, rfl⟩
    · refine step_store rfl fun sg ly a wr hl hd hW hF => ?_
      simp [Region.binds] at hd
      have et34 := hF.new 8 34 (by simp [hd]) rfl
      simp [FbV, Act.eval] at et34
      have et33 := hF.new 7 33 (by simp [hd]) rfl
      simp [FbV, Act.eval] at et33
      have hh := hW.2.2
      rw [if_neg (by simp [hl])] at hh
      have c1 := (cell_of_heap hh 1).trans rfl
      have f1 := frozen_of_heap hh 1
      have zq := heap_lt hh
      refine ⟨wr.setCell ⟨sb, 1, none⟩ (.int .i64 (if lo + sg < m then lo + sg else m)), sg, .skip, by go_simp, .inl rfl, ⟨hW.1.keep (T := [sb]) ((Keep.refl _ _).setCell (.inl (by simp)) _) ?_, hW.2.1, by rw [show upd ly 9 9 = true from if_pos rfl, if_pos rfl]; exact heap_set hh 1 _⟩, fun _ _ _ h => h⟩
      intro z hz
      rw [List.mem_singleton.1 hz]
      have := HN.out.2
      have := HSB.out
      exact ⟨.inl (by simp), by omega, by omega, by omega, by omega⟩
  intro sg2 a w6 hWW hF
  obtain ⟨f2, hf, rfl⟩ := hF.lit
  obtain ⟨y1, y2⟩ := hWW.2.1 rfl
  have g6 := hWW.2.2
  simp only [List.length_cons, List.length_nil, Nat.reduceAdd, Nat.reduceLT, decide_true, if_true] at g6
  obtain ⟨hi, hhi⟩ : ∃ hi, hi = (if lo + sg2 < m then lo + sg2 else m) := ⟨_, rfl⟩
  have hib : lo ≤ hi ∧ hi ≤ m := by rw [hhi]; split <;> omega
  obtain ⟨hi1, hi2⟩ := hib
  rw [← hhi] at g6
  have kk : Keep [ib, sb] w5 w6 := hWW.1.kp
  have hrr : w6.heap[rb]? = some (.cells #[.int .i64 0, .int .i64 0] 28 (0, 0)) := by
    have e1 := (H5.out.2.1.kp.block _ HN.out.2.2.1.2.2.2 (by simpa using HN.out.2.2.1.1.symm)).trans HN.out.2.2.2.2.1
    exact (kk.block _ (heap_lt e1) (by have := HN.out.2.2.1; have := H5.out.2.2; simp; omega)).trans e1
  have kw : Keep [ib] w w6 := ((Keep.of_below (S := [ib]) HW.out).trans H5.out.2.1.kp (fun z hz => .inl hz)).trans kk (fun z hz => by
    rcases List.mem_cons.1 hz with e | e
    · exact .inl (by simp [e])
    · rw [List.mem_singleton.1 e]; exact .inr (by have := HW.out.size; have := H5.out.2.2; omega))
  have c0 := (cell_of_heap g6 0).trans rfl
  have c1 := (cell_of_heap g6 1).trans rfl
  have zs := heap_lt g6
  have r0 := (cell_of_heap hrr 0).trans rfl
  have r1 := (cell_of_heap hrr 1).trans rfl
  have f0 := frozen_of_heap hrr 0
  have f1 := frozen_of_heap hrr 1
  have zr := heap_lt hrr
  have hfin : ((w6.setCell ⟨rb, 0, none⟩ (.int .i64 lo)).setCell ⟨rb, 1, none⟩ (.int .i64 hi)).heap[rb]? = some (.cells #[.int .i64 lo, .int .i64 hi] 28 (0, 0)) := heap_set (heap_set hrr 0 (.int .i64 lo)) 1 (.int .i64 hi)
  have kr : Keep [rb] w6 ((w6.setCell ⟨rb, 0, none⟩ (.int .i64 lo)).setCell ⟨rb, 1, none⟩ (.int .i64 hi)) := ((Keep.refl _ _).setCell (.inl (by simp)) _).setCell (.inl (by simp)) _
  have H6 := Lib.hid (And.intro hfin (And.intro (hWW.1.nx.keep kr (fun z hz => by rw [List.mem_singleton.1 hz]; have := HN.out; omega)) (kw.trans kr (fun z hz => .inr (by rw [List.mem_singleton.1 hz]; exact HN.out.2.2.2.1)))))
  clear hf hF hWW y1 y2 g6 hhi kk hrr kw hfin kr
  simp only [List.filterMap, List.foldl, List.setIfInBounds_toArray, List.set_cons_succ, List.set_cons_zero]
  go_wp2_with fail
  exact bodyPost_ret (span_results (r := 9) rfl H6.out.1 _ rfl) rfl ⟨lo, hi, rfl, ⟨lo1, hi1, hi2⟩, H6.out.2.1, H6.out.2.2⟩

end Go.Proofs.YtalcinepeofmcaaDoor
