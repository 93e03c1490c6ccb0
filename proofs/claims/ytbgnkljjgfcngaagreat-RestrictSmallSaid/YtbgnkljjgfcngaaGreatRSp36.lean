/- math/bits.Mul of 1 and a number; ice: whole, each, cell, Whole (printed by wip/tools/icej.py) -/
import Derived.Test.YtbgnkljjgfcngaaGreatRSp31
import Derived.Laws.Bits64b
import Derived.IntWalk
import Derived.Test.YtbgnkljjgfcngaaGreatRSp0
import Derived.Laws.IdiomCopy
import Derived.Laws.MakeOwn
import Derived.Laws.OwnMore
set_option linter.unusedVariables false
set_option linter.unusedSimpArgs false
namespace Go.Proofs.YtbgnkljjgfcngaaGreat
open Go Go.RowKit Go.Lib Sp
set_option linter.unusedVariables false

theorem bitsN (n : Nat) (hn : n < 4294967296) : bits .and .u64 (n : Int) 4294967295 = (n : Int) := by
  have h := bits_and_u64_nat n 4294967295 (by omega) (by omega)
  have e : n &&& 4294967295 = n := by
    have := Nat.and_two_pow_sub_one_eq_mod n 32
    simp only [Nat.reducePow, Nat.reduceSub] at this
    rw [this]; omega
  rw [e] at h
  exact h
set_option maxRecDepth 100000 in
set_option maxHeartbeats 1000000 in
theorem mul64_any (n : Nat) (hn : n < 1000000) (w : World) :
    Calls Tryz.prog 105 #[.int .u64 1, .int .u64 n] w fun e w' => e = .returned (.tuple #[.int .u64 0, .int .u64 n]) ∧ w = w' := by
  have h1 := bitsN n (by omega)
  have h4 : bits .and .u64 1 4294967295 = 1 := bitsN 1 (by omega)
  have h5 : bits .and .u64 0 4294967295 = 0 := bitsN 0 (by omega)
  have h2 : (n : Int) / 4294967296 = 0 := by omega
  have h3 : IntKind.u64.wrap (n : Int) = (n : Int) := by rw [IntKind.wrap_u64]; omega
  have h6 : IntKind.u64.wrap 0 = 0 := rfl
  go_enter Tryz.func105, Tryz.ntmps105
  go_wp2_with fail
  go_ret2
  exact ⟨rfl, rfl⟩
set_option maxRecDepth 100000 in
theorem mul_any (n : Nat) (hn : n < 1000000) (w : World) :
    Calls Tryz.prog 64 #[.int .u64 1, .int .u64 n] w fun e w' => e = .returned (.tuple #[.int .u64 0, .int .u64 n]) ∧ w = w' := by
  go_enter Tryz.func64, Tryz.ntmps64
  go_wp2_with (go_at_call 105; refine (mul64_any n hn _).mono ?_; rintro e w' ⟨rfl, rfl⟩)
  go_ret2
  exact ⟨rfl, rfl⟩

theorem span_results {F : Func} {r : Nat} (hF : F.results = #[.cell r 33]) {W : World} {b : Nat} {x y : Int} (h : W.heap[b]? = some (.cells #[.int .i64 x, .int .i64 y] 33 (0, 0))) (tmps : Array Value) (hr : tmps.getD r undef = .pointer (some ⟨b, 0, none⟩)) :
    (results F tmps).run Tryz.prog W = .ok (.agg #[.int .i64 x, .int .i64 y]) W := by
  have g4 : tmps[r]?.getD undef = .pointer (some ⟨b, 0, none⟩) := by simpa using hr
  have c0 : W.cell? ⟨b, 0, none⟩ = some (.int .i64 x) := (cell_of_heap h 0).trans rfl
  have c1 : W.cell? ⟨b, 1, none⟩ = some (.int .i64 y) := (cell_of_heap h 1).trans rfl
  simp [results, hF, g4, asAddr, go_sem, c0, c1]
theorem spans_results {F : Func} {r : Nat} (hF : F.results = #[.cell r 159]) {W : World} {b : Nat} {x0 x1 x2 x3 x4 x5 x6 x7 : Int} (h : W.heap[b]? = some (.cells #[.int .i64 x0, .int .i64 x1, .int .i64 x2, .int .i64 x3, .int .i64 x4, .int .i64 x5, .int .i64 x6, .int .i64 x7] 159 (0, 0))) (tmps : Array Value) (hr : tmps.getD r undef = .pointer (some ⟨b, 0, none⟩)) :
    (results F tmps).run Tryz.prog W = .ok (.agg #[.int .i64 x0, .int .i64 x1, .int .i64 x2, .int .i64 x3, .int .i64 x4, .int .i64 x5, .int .i64 x6, .int .i64 x7]) W := by
  have g4 : tmps[r]?.getD undef = .pointer (some ⟨b, 0, none⟩) := by simpa using hr
  have c0 : W.cell? ⟨b, 0, none⟩ = some (.int .i64 x0) := (cell_of_heap h 0).trans rfl
  have c1 : W.cell? ⟨b, 1, none⟩ = some (.int .i64 x1) := (cell_of_heap h 1).trans rfl
  have c2 : W.cell? ⟨b, 2, none⟩ = some (.int .i64 x2) := (cell_of_heap h 2).trans rfl
  have c3 : W.cell? ⟨b, 3, none⟩ = some (.int .i64 x3) := (cell_of_heap h 3).trans rfl
  have c4 : W.cell? ⟨b, 4, none⟩ = some (.int .i64 x4) := (cell_of_heap h 4).trans rfl
  have c5 : W.cell? ⟨b, 5, none⟩ = some (.int .i64 x5) := (cell_of_heap h 5).trans rfl
  have c6 : W.cell? ⟨b, 6, none⟩ = some (.int .i64 x6) := (cell_of_heap h 6).trans rfl
  have c7 : W.cell? ⟨b, 7, none⟩ = some (.int .i64 x7) := (cell_of_heap h 7).trans rfl
  simp [results, hF, g4, asAddr, go_sem, c0, c1, c2, c3, c4, c5, c6, c7]
theorem celA_results {F : Func} {r : Nat} (hF : F.results = #[.cell r 54]) {W : World} {b : Nat} {x0 x1 x2 x3 x4 x5 x6 x7 : Int} (h : W.heap[b]? = some (.cells #[.int .i64 x0, .int .i64 x1, .int .i64 x2, .int .i64 x3, .int .i64 x4, .int .i64 x5, .int .i64 x6, .int .i64 x7] 54 (0, 0))) (tmps : Array Value) (hr : tmps.getD r undef = .pointer (some ⟨b, 0, none⟩)) :
    (results F tmps).run Tryz.prog W = .ok (.agg #[.int .i64 x0, .int .i64 x1, .int .i64 x2, .int .i64 x3, .int .i64 x4, .int .i64 x5, .int .i64 x6, .int .i64 x7]) W := by
  have g4 : tmps[r]?.getD undef = .pointer (some ⟨b, 0, none⟩) := by simpa using hr
  have c0 : W.cell? ⟨b, 0, none⟩ = some (.int .i64 x0) := (cell_of_heap h 0).trans rfl
  have c1 : W.cell? ⟨b, 1, none⟩ = some (.int .i64 x1) := (cell_of_heap h 1).trans rfl
  have c2 : W.cell? ⟨b, 2, none⟩ = some (.int .i64 x2) := (cell_of_heap h 2).trans rfl
  have c3 : W.cell? ⟨b, 3, none⟩ = some (.int .i64 x3) := (cell_of_heap h 3).trans rfl
  have c4 : W.cell? ⟨b, 4, none⟩ = some (.int .i64 x4) := (cell_of_heap h 4).trans rfl
  have c5 : W.cell? ⟨b, 5, none⟩ = some (.int .i64 x5) := (cell_of_heap h 5).trans rfl
  have c6 : W.cell? ⟨b, 6, none⟩ = some (.int .i64 x6) := (cell_of_heap h 6).trans rfl
  have c7 : W.cell? ⟨b, 7, none⟩ = some (.int .i64 x7) := (cell_of_heap h 7).trans rfl
  simp [results, hF, g4, asAddr, go_sem, c0, c1, c2, c3, c4, c5, c6, c7]

def wholeS (k : Nat) : Int × Int := (0, mostN k)
set_option maxRecDepth 100000 in
theorem whole1_any (k : Nat) (hk : k < 4) (w : World) :
    Calls Tryz.prog 118 #[.int .i64 k] w fun e w' => e = .returned (.agg #[.int .i64 (wholeS k).1, .int .i64 (wholeS k).2]) ∧ Below w.heap.size w w' := by
  have h0 := fun w => (most_index w).1.1
  have h1 := fun w => (most_index w).1.2
  have h2 := fun w => (most_index w).2.1
  have h3 := fun w => (most_index w).2.2
  obtain ⟨W, hW⟩ : ∃ W, W = w.alloc (.cells #[.int .i64 0, .int .i64 0] 33) := ⟨_, rfl⟩
  obtain ⟨rb, hrb⟩ : ∃ b, b = w.heap.size := ⟨_, rfl⟩
  have hh : W.heap[rb]? = some (.cells #[.int .i64 0, .int .i64 0] 33 (0, 0)) := by rw [hW, hrb]; exact heap_alloc_new _ _
  have bW : Below w.heap.size w W := by rw [hW]; exact (Below.refl _ _).alloc (Nat.le_refl _) _
  have hrw : w.heap.size ≤ rb := by omega
  have HR := Lib.hid (And.intro hh (And.intro bW hrw))
  clear hh bW hrw
  rcases (by omega : k = 0 ∨ k = 1 ∨ k = 2 ∨ k = 3) with rfl | rfl | rfl | rfl
  · show Calls Tryz.prog 118 #[.int .i64 0] w fun e w' => e = .returned (.agg #[.int .i64 0, .int .i64 100]) ∧ Below w.heap.size w w'
    go_enter Tryz.func118, Tryz.ntmps118
    go_upto_region 1 with fail
    rw [← hW, ← hrb]
    clear hW hrb
    go_wp2_with fail
    refine (most_any _).mono ?_
    rintro e w2 ⟨rfl, b2⟩
    have hh := (b2.block _ (heap_lt HR.out.1)).trans HR.out.1
    have c0 := (cell_of_heap hh 0).trans rfl
    have c1 := (cell_of_heap hh 1).trans rfl
    have f0 := frozen_of_heap hh 0
    have f1 := frozen_of_heap hh 1
    have zo := heap_lt hh
    have H3 := Lib.hid (And.intro hh (HR.out.2.1.trans (b2.mono HR.out.2.1.size)))
    clear hh b2
    go_wp2_with fail
    exact bodyPost_ret (span_results (r := 2) rfl (heap_set (heap_set H3.out.1 0 _) 1 _) _ rfl) rfl ⟨rfl, (H3.out.2.setCell HR.out.2.2 _).setCell HR.out.2.2 _⟩
  · show Calls Tryz.prog 118 #[.int .i64 1] w fun e w' => e = .returned (.agg #[.int .i64 0, .int .i64 400]) ∧ Below w.heap.size w w'
    go_enter Tryz.func118, Tryz.ntmps118
    go_upto_region 1 with fail
    rw [← hW, ← hrb]
    clear hW hrb
    go_wp2_with fail
    refine (most_any _).mono ?_
    rintro e w2 ⟨rfl, b2⟩
    have hh := (b2.block _ (heap_lt HR.out.1)).trans HR.out.1
    have c0 := (cell_of_heap hh 0).trans rfl
    have c1 := (cell_of_heap hh 1).trans rfl
    have f0 := frozen_of_heap hh 0
    have f1 := frozen_of_heap hh 1
    have zo := heap_lt hh
    have H3 := Lib.hid (And.intro hh (HR.out.2.1.trans (b2.mono HR.out.2.1.size)))
    clear hh b2
    go_wp2_with fail
    exact bodyPost_ret (span_results (r := 2) rfl (heap_set (heap_set H3.out.1 0 _) 1 _) _ rfl) rfl ⟨rfl, (H3.out.2.setCell HR.out.2.2 _).setCell HR.out.2.2 _⟩
  · show Calls Tryz.prog 118 #[.int .i64 2] w fun e w' => e = .returned (.agg #[.int .i64 0, .int .i64 100]) ∧ Below w.heap.size w w'
    go_enter Tryz.func118, Tryz.ntmps118
    go_upto_region 1 with fail
    rw [← hW, ← hrb]
    clear hW hrb
    go_wp2_with fail
    refine (most_any _).mono ?_
    rintro e w2 ⟨rfl, b2⟩
    have hh := (b2.block _ (heap_lt HR.out.1)).trans HR.out.1
    have c0 := (cell_of_heap hh 0).trans rfl
    have c1 := (cell_of_heap hh 1).trans rfl
    have f0 := frozen_of_heap hh 0
    have f1 := frozen_of_heap hh 1
    have zo := heap_lt hh
    have H3 := Lib.hid (And.intro hh (HR.out.2.1.trans (b2.mono HR.out.2.1.size)))
    clear hh b2
    go_wp2_with fail
    exact bodyPost_ret (span_results (r := 2) rfl (heap_set (heap_set H3.out.1 0 _) 1 _) _ rfl) rfl ⟨rfl, (H3.out.2.setCell HR.out.2.2 _).setCell HR.out.2.2 _⟩
  · show Calls Tryz.prog 118 #[.int .i64 3] w fun e w' => e = .returned (.agg #[.int .i64 0, .int .i64 3]) ∧ Below w.heap.size w w'
    go_enter Tryz.func118, Tryz.ntmps118
    go_upto_region 1 with fail
    rw [← hW, ← hrb]
    clear hW hrb
    go_wp2_with fail
    refine (most_any _).mono ?_
    rintro e w2 ⟨rfl, b2⟩
    have hh := (b2.block _ (heap_lt HR.out.1)).trans HR.out.1
    have c0 := (cell_of_heap hh 0).trans rfl
    have c1 := (cell_of_heap hh 1).trans rfl
    have f0 := frozen_of_heap hh 0
    have f1 := frozen_of_heap hh 1
    have zo := heap_lt hh
    have H3 := Lib.hid (And.intro hh (HR.out.2.1.trans (b2.mono HR.out.2.1.size)))
    clear hh b2
    go_wp2_with fail
    exact bodyPost_ret (span_results (r := 2) rfl (heap_set (heap_set H3.out.1 0 _) 1 _) _ rfl) rfl ⟨rfl, (H3.out.2.setCell HR.out.2.2 _).setCell HR.out.2.2 _⟩

def eachWA (g : Nat → Int × Int) : Nat → Array Value
  | 0 => #[.int .i64 0, .int .i64 0, .int .i64 0, .int .i64 0, .int .i64 0, .int .i64 0, .int .i64 0, .int .i64 0]
  | 1 => #[.int .i64 (g 0).1, .int .i64 (g 0).2, .int .i64 0, .int .i64 0, .int .i64 0, .int .i64 0, .int .i64 0, .int .i64 0]
  | 2 => #[.int .i64 (g 0).1, .int .i64 (g 0).2, .int .i64 (g 1).1, .int .i64 (g 1).2, .int .i64 0, .int .i64 0, .int .i64 0, .int .i64 0]
  | 3 => #[.int .i64 (g 0).1, .int .i64 (g 0).2, .int .i64 (g 1).1, .int .i64 (g 1).2, .int .i64 (g 2).1, .int .i64 (g 2).2, .int .i64 0, .int .i64 0]
  | _ => #[.int .i64 (g 0).1, .int .i64 (g 0).2, .int .i64 (g 1).1, .int .i64 (g 1).2, .int .i64 (g 2).1, .int .i64 (g 2).2, .int .i64 (g 3).1, .int .i64 (g 3).2]
set_option maxRecDepth 100000 in
set_option maxHeartbeats 2000000 in
theorem eachW  (g : Nat → Int × Int) (w : World) (hg : ∀ k : Nat, k < 4 → ∀ wx, Below w.heap.size w wx → Calls Tryz.prog 118 #[.int .i64 k] wx fun e w' => e = .returned (.agg #[.int .i64 (g k).1, .int .i64 (g k).2]) ∧ Below wx.heap.size wx w') :
    Calls Tryz.prog 117 #[.func (.func 118) #[] #[]] w fun e w' => e = .returned (.agg #[.int .i64 (g 0).1, .int .i64 (g 0).2, .int .i64 (g 1).1, .int .i64 (g 1).2, .int .i64 (g 2).1, .int .i64 (g 2).2, .int .i64 (g 3).1, .int .i64 (g 3).2]) ∧ Below w.heap.size w w' := by
  obtain ⟨W, hW⟩ : ∃ W, W = (w.alloc (.cells #[.int .i64 0, .int .i64 0, .int .i64 0, .int .i64 0, .int .i64 0, .int .i64 0, .int .i64 0, .int .i64 0] 159)).alloc (.cells #[.int .i64 0, .int .i64 0, .int .i64 0, .int .i64 0, .int .i64 0, .int .i64 0, .int .i64 0, .int .i64 0] 159) := ⟨_, rfl⟩
  obtain ⟨rb, hrb⟩ : ∃ b, b = w.heap.size := ⟨_, rfl⟩
  obtain ⟨ob, hob⟩ : ∃ b, b = w.heap.size + 1 := ⟨_, rfl⟩
  have hrh : W.heap[rb]? = some (.cells #[.int .i64 0, .int .i64 0, .int .i64 0, .int .i64 0, .int .i64 0, .int .i64 0, .int .i64 0, .int .i64 0] 159 (0, 0)) := by rw [hW, hrb]; exact heap_alloc' (heap_alloc_new _ _) _
  have hoh : W.heap[ob]? = some (.cells #[.int .i64 0, .int .i64 0, .int .i64 0, .int .i64 0, .int .i64 0, .int .i64 0, .int .i64 0, .int .i64 0] 159 (0, 0)) := by
    rw [hW, hob]
    have := heap_alloc_new (w.alloc (.cells #[.int .i64 0, .int .i64 0, .int .i64 0, .int .i64 0, .int .i64 0, .int .i64 0, .int .i64 0, .int .i64 0] 159)) (.cells #[.int .i64 0, .int .i64 0, .int .i64 0, .int .i64 0, .int .i64 0, .int .i64 0, .int .i64 0, .int .i64 0] 159)
    rwa [World.size_alloc] at this
  have bW : Below w.heap.size w W := by rw [hW]; exact ((Below.refl _ _).alloc (Nat.le_refl _) _).alloc (by simp) _
  have hrw : w.heap.size ≤ rb := by omega
  have how : w.heap.size ≤ ob := by omega
  have hne : rb ≠ ob := by omega
  have HR := Lib.hid (And.intro hrh (And.intro hoh (And.intro bW (And.intro hne hg))))
  clear hrh hoh bW hne hg
  go_enter Tryz.func117, Tryz.ntmps117
  go_upto_region 2 with fail
  rw [← hW, ← hob, ← hrb]
  clear hW hob hrb
  go_wp2_with fail
  go_loopw [5] (fun i wr => ∃ k : Nat, k ≤ 4 ∧ i = .int .i64 k ∧ wr.heap[ob]? = some (.cells (eachWA g k) 159 (0, 0)) ∧ Keep [ob] W wr) (fun i _ => 4 - (intOf i).toNat)
  case atStart => exact ⟨0, by omega, rfl, HR.out.2.1, Keep.refl _ _⟩
  case round =>
    obtain ⟨k, hk, rfl, hh, hK⟩ := hrel
    have bw : Below w.heap.size w wr := HR.out.2.2.1.trans (hK.below HR.out.2.2.1.size (by simpa using how))
    have HB := Lib.hid (And.intro hh (And.intro hK bw))
    clear hh hK bw
    rcases (by omega : k = 0 ∨ k = 1 ∨ k = 2 ∨ k = 3 ∨ k = 4) with rfl | rfl | rfl | rfl | rfl
    · have hc := HR.out.2.2.2.2 0 (by omega) wr HB.out.2.2
      obtain ⟨x, y, hxy⟩ : ∃ x y : Int, g 0 = (x, y) := ⟨_, _, rfl⟩
      rw [hxy] at hc
      have HC := Lib.hid (And.intro hc hxy)
      clear hc hxy
      go_wp2_with fail
      refine HC.out.1.mono ?_
      rintro e w2 ⟨rfl, b2⟩
      have hh2 : w2.heap[ob]? = some (.cells #[.int .i64 0, .int .i64 0, .int .i64 0, .int .i64 0, .int .i64 0, .int .i64 0, .int .i64 0, .int .i64 0] 159 (0, 0)) := (b2.block _ (heap_lt HB.out.1)).trans HB.out.1
      have c0 := (cell_of_heap hh2 0).trans rfl
      have c1 := (cell_of_heap hh2 1).trans rfl
      have f0 := frozen_of_heap hh2 0
      have f1 := frozen_of_heap hh2 1
      have zo := heap_lt hh2
      have hh3 : ((w2.setCell ⟨ob, 0, none⟩ (.int .i64 x)).setCell ⟨ob, 1, none⟩ (.int .i64 y)).heap[ob]? = some (.cells (eachWA g 1) 159 (0, 0)) := by
        have := heap_set (heap_set hh2 0 (.int .i64 x)) 1 (.int .i64 y)
        rw [this]
        simp [eachWA, HC.out.2]
      have hK3 : Keep [ob] W ((w2.setCell ⟨ob, 0, none⟩ (.int .i64 x)).setCell ⟨ob, 1, none⟩ (.int .i64 y)) := ((HB.out.2.1.trans (Keep.of_below (S := []) b2) (by simp)).setCell (.inl (by simp)) _).setCell (.inl (by simp)) _
      have H3 := Lib.hid (And.intro hh3 hK3)
      clear hh2 hh3 hK3 b2
      go_wp2_with fail
      go_roundw
      case measure => simp [intOf]
      case rel => exact ⟨1, by omega, rfl, H3.out.1, H3.out.2⟩
    · have hc := HR.out.2.2.2.2 1 (by omega) wr HB.out.2.2
      obtain ⟨x, y, hxy⟩ : ∃ x y : Int, g 1 = (x, y) := ⟨_, _, rfl⟩
      rw [hxy] at hc
      have HC := Lib.hid (And.intro hc hxy)
      clear hc hxy
      go_wp2_with fail
      refine HC.out.1.mono ?_
      rintro e w2 ⟨rfl, b2⟩
      have hh2 : w2.heap[ob]? = some (.cells #[.int .i64 (g 0).1, .int .i64 (g 0).2, .int .i64 0, .int .i64 0, .int .i64 0, .int .i64 0, .int .i64 0, .int .i64 0] 159 (0, 0)) := (b2.block _ (heap_lt HB.out.1)).trans HB.out.1
      have c0 := (cell_of_heap hh2 2).trans rfl
      have c1 := (cell_of_heap hh2 3).trans rfl
      have f0 := frozen_of_heap hh2 2
      have f1 := frozen_of_heap hh2 3
      have zo := heap_lt hh2
      have hh3 : ((w2.setCell ⟨ob, 2, none⟩ (.int .i64 x)).setCell ⟨ob, 3, none⟩ (.int .i64 y)).heap[ob]? = some (.cells (eachWA g 2) 159 (0, 0)) := by
        have := heap_set (heap_set hh2 2 (.int .i64 x)) 3 (.int .i64 y)
        rw [this]
        simp [eachWA, HC.out.2]
      have hK3 : Keep [ob] W ((w2.setCell ⟨ob, 2, none⟩ (.int .i64 x)).setCell ⟨ob, 3, none⟩ (.int .i64 y)) := ((HB.out.2.1.trans (Keep.of_below (S := []) b2) (by simp)).setCell (.inl (by simp)) _).setCell (.inl (by simp)) _
      have H3 := Lib.hid (And.intro hh3 hK3)
      clear hh2 hh3 hK3 b2
      go_wp2_with fail
      go_roundw
      case measure => simp [intOf]
      case rel => exact ⟨2, by omega, rfl, H3.out.1, H3.out.2⟩
    · have hc := HR.out.2.2.2.2 2 (by omega) wr HB.out.2.2
      obtain ⟨x, y, hxy⟩ : ∃ x y : Int, g 2 = (x, y) := ⟨_, _, rfl⟩
      rw [hxy] at hc
      have HC := Lib.hid (And.intro hc hxy)
      clear hc hxy
      go_wp2_with fail
      refine HC.out.1.mono ?_
      rintro e w2 ⟨rfl, b2⟩
      have hh2 : w2.heap[ob]? = some (.cells #[.int .i64 (g 0).1, .int .i64 (g 0).2, .int .i64 (g 1).1, .int .i64 (g 1).2, .int .i64 0, .int .i64 0, .int .i64 0, .int .i64 0] 159 (0, 0)) := (b2.block _ (heap_lt HB.out.1)).trans HB.out.1
      have c0 := (cell_of_heap hh2 4).trans rfl
      have c1 := (cell_of_heap hh2 5).trans rfl
      have f0 := frozen_of_heap hh2 4
      have f1 := frozen_of_heap hh2 5
      have zo := heap_lt hh2
      have hh3 : ((w2.setCell ⟨ob, 4, none⟩ (.int .i64 x)).setCell ⟨ob, 5, none⟩ (.int .i64 y)).heap[ob]? = some (.cells (eachWA g 3) 159 (0, 0)) := by
        have := heap_set (heap_set hh2 4 (.int .i64 x)) 5 (.int .i64 y)
        rw [this]
        simp [eachWA, HC.out.2]
      have hK3 : Keep [ob] W ((w2.setCell ⟨ob, 4, none⟩ (.int .i64 x)).setCell ⟨ob, 5, none⟩ (.int .i64 y)) := ((HB.out.2.1.trans (Keep.of_below (S := []) b2) (by simp)).setCell (.inl (by simp)) _).setCell (.inl (by simp)) _
      have H3 := Lib.hid (And.intro hh3 hK3)
      clear hh2 hh3 hK3 b2
      go_wp2_with fail
      go_roundw
      case measure => simp [intOf]
      case rel => exact ⟨3, by omega, rfl, H3.out.1, H3.out.2⟩
    · have hc := HR.out.2.2.2.2 3 (by omega) wr HB.out.2.2
      obtain ⟨x, y, hxy⟩ : ∃ x y : Int, g 3 = (x, y) := ⟨_, _, rfl⟩
      rw [hxy] at hc
      have HC := Lib.hid (And.intro hc hxy)
      clear hc hxy
      go_wp2_with fail
      refine HC.out.1.mono ?_
      rintro e w2 ⟨rfl, b2⟩
      have hh2 : w2.heap[ob]? = some (.cells #[.int .i64 (g 0).1, .int .i64 (g 0).2, .int .i64 (g 1).1, .int .i64 (g 1).2, .int .i64 (g 2).1, .int .i64 (g 2).2, .int .i64 0, .int .i64 0] 159 (0, 0)) := (b2.block _ (heap_lt HB.out.1)).trans HB.out.1
      have c0 := (cell_of_heap hh2 6).trans rfl
      have c1 := (cell_of_heap hh2 7).trans rfl
      have f0 := frozen_of_heap hh2 6
      have f1 := frozen_of_heap hh2 7
      have zo := heap_lt hh2
      have hh3 : ((w2.setCell ⟨ob, 6, none⟩ (.int .i64 x)).setCell ⟨ob, 7, none⟩ (.int .i64 y)).heap[ob]? = some (.cells (eachWA g 4) 159 (0, 0)) := by
        have := heap_set (heap_set hh2 6 (.int .i64 x)) 7 (.int .i64 y)
        rw [this]
        simp [eachWA, HC.out.2]
      have hK3 : Keep [ob] W ((w2.setCell ⟨ob, 6, none⟩ (.int .i64 x)).setCell ⟨ob, 7, none⟩ (.int .i64 y)) := ((HB.out.2.1.trans (Keep.of_below (S := []) b2) (by simp)).setCell (.inl (by simp)) _).setCell (.inl (by simp)) _
      have H3 := Lib.hid (And.intro hh3 hK3)
      clear hh2 hh3 hK3 b2
      go_wp2_with fail
      go_roundw
      case measure => simp [intOf]
      case rel => exact ⟨4, by omega, rfl, H3.out.1, H3.out.2⟩
    · have hh : wr.heap[ob]? = some (.cells #[.int .i64 (g 0).1, .int .i64 (g 0).2, .int .i64 (g 1).1, .int .i64 (g 1).2, .int .i64 (g 2).1, .int .i64 (g 2).2, .int .i64 (g 3).1, .int .i64 (g 3).2] 159 (0, 0)) := HB.out.1
      have hr : wr.heap[rb]? = some (.cells #[.int .i64 0, .int .i64 0, .int .i64 0, .int .i64 0, .int .i64 0, .int .i64 0, .int .i64 0, .int .i64 0] 159 (0, 0)) := (HB.out.2.1.block _ (heap_lt HR.out.1) (by simpa using HR.out.2.2.2.1)).trans HR.out.1
      have c0 := (cell_of_heap hh 0).trans rfl
      have c1 := (cell_of_heap hh 1).trans rfl
      have c2 := (cell_of_heap hh 2).trans rfl
      have c3 := (cell_of_heap hh 3).trans rfl
      have c4 := (cell_of_heap hh 4).trans rfl
      have c5 := (cell_of_heap hh 5).trans rfl
      have c6 := (cell_of_heap hh 6).trans rfl
      have c7 := (cell_of_heap hh 7).trans rfl
      have r0 := (cell_of_heap hr 0).trans rfl
      have f0 := frozen_of_heap hr 0
      have r1 := (cell_of_heap hr 1).trans rfl
      have f1 := frozen_of_heap hr 1
      have r2 := (cell_of_heap hr 2).trans rfl
      have f2 := frozen_of_heap hr 2
      have r3 := (cell_of_heap hr 3).trans rfl
      have f3 := frozen_of_heap hr 3
      have r4 := (cell_of_heap hr 4).trans rfl
      have f4 := frozen_of_heap hr 4
      have r5 := (cell_of_heap hr 5).trans rfl
      have f5 := frozen_of_heap hr 5
      have r6 := (cell_of_heap hr 6).trans rfl
      have f6 := frozen_of_heap hr 6
      have r7 := (cell_of_heap hr 7).trans rfl
      have f7 := frozen_of_heap hr 7
      have zo := heap_lt hh
      have zr := heap_lt hr
      have hfin : ((((((((wr.setCell ⟨rb, 0, none⟩ (.int .i64 (g 0).1)).setCell ⟨rb, 1, none⟩ (.int .i64 (g 0).2)).setCell ⟨rb, 2, none⟩ (.int .i64 (g 1).1)).setCell ⟨rb, 3, none⟩ (.int .i64 (g 1).2)).setCell ⟨rb, 4, none⟩ (.int .i64 (g 2).1)).setCell ⟨rb, 5, none⟩ (.int .i64 (g 2).2)).setCell ⟨rb, 6, none⟩ (.int .i64 (g 3).1)).setCell ⟨rb, 7, none⟩ (.int .i64 (g 3).2)).heap[rb]? = some (.cells #[.int .i64 (g 0).1, .int .i64 (g 0).2, .int .i64 (g 1).1, .int .i64 (g 1).2, .int .i64 (g 2).1, .int .i64 (g 2).2, .int .i64 (g 3).1, .int .i64 (g 3).2] 159 (0, 0)) := (heap_set (heap_set (heap_set (heap_set (heap_set (heap_set (heap_set (heap_set hr 0 (.int .i64 (g 0).1)) 1 (.int .i64 (g 0).2)) 2 (.int .i64 (g 1).1)) 3 (.int .i64 (g 1).2)) 4 (.int .i64 (g 2).1)) 5 (.int .i64 (g 2).2)) 6 (.int .i64 (g 3).1)) 7 (.int .i64 (g 3).2))
      have H3 := Lib.hid (And.intro hfin ((((((((HB.out.2.2.setCell (p := ⟨rb, 0, none⟩) hrw (.int .i64 (g 0).1)).setCell (p := ⟨rb, 1, none⟩) hrw (.int .i64 (g 0).2)).setCell (p := ⟨rb, 2, none⟩) hrw (.int .i64 (g 1).1)).setCell (p := ⟨rb, 3, none⟩) hrw (.int .i64 (g 1).2)).setCell (p := ⟨rb, 4, none⟩) hrw (.int .i64 (g 2).1)).setCell (p := ⟨rb, 5, none⟩) hrw (.int .i64 (g 2).2)).setCell (p := ⟨rb, 6, none⟩) hrw (.int .i64 (g 3).1)).setCell (p := ⟨rb, 7, none⟩) hrw (.int .i64 (g 3).2)))
      clear hh hr hfin
      go_wp2_with fail
      exact bodyPost_ret (spans_results (r := 2) rfl H3.out.1 _ rfl) rfl ⟨rfl, H3.out.2⟩

end Go.Proofs.YtbgnkljjgfcngaaGreat
/- ice: whole, cell, Whole -/
namespace Go.Proofs.YtbgnkljjgfcngaaGreat
open Go Go.RowKit Go.Lib Sp
set_option linter.unusedVariables false

def celW : Cel := ⟨0, 100, 0, 400, 0, 100, 0, 3⟩
set_option maxRecDepth 100000 in
theorem whole_any (w : World) :
    Calls Tryz.prog 92 #[] w fun e w' => e = .returned (.agg #[.int .i64 0, .int .i64 100, .int .i64 0, .int .i64 400, .int .i64 0, .int .i64 100, .int .i64 0, .int .i64 3]) ∧ Below w.heap.size w w' := by
  have h0 : ∀ wx, Calls Tryz.prog 117 #[.func (.func 118) #[] #[]] wx fun e w' => e = .returned (.agg #[.int .i64 0, .int .i64 100, .int .i64 0, .int .i64 400, .int .i64 0, .int .i64 100, .int .i64 0, .int .i64 3]) ∧ Below wx.heap.size wx w' := fun wx => eachW wholeS wx (fun (k : Nat) hk wy _ => whole1_any k hk wy)
  have H := Lib.hid h0
  clear h0
  obtain ⟨W, hW⟩ : ∃ W, W = w.alloc (.cells #[.int .i64 0, .int .i64 0, .int .i64 0, .int .i64 0, .int .i64 0, .int .i64 0, .int .i64 0, .int .i64 0] 159) := ⟨_, rfl⟩
  obtain ⟨rb, hrb⟩ : ∃ b, b = w.heap.size := ⟨_, rfl⟩
  have hh : W.heap[rb]? = some (.cells #[.int .i64 0, .int .i64 0, .int .i64 0, .int .i64 0, .int .i64 0, .int .i64 0, .int .i64 0, .int .i64 0] 159 (0, 0)) := by rw [hW, hrb]; exact heap_alloc_new _ _
  have bW : Below w.heap.size w W := by rw [hW]; exact (Below.refl _ _).alloc (Nat.le_refl _) _
  have hrw : w.heap.size ≤ rb := by omega
  have HR := Lib.hid (And.intro hh (And.intro bW hrw))
  clear hh bW hrw
  go_enter Tryz.func92, Tryz.ntmps92
  go_upto_region 1 with fail
  rw [← hW, ← hrb]
  clear hW hrb
  go_wp2_with fail
  refine (H.out _).mono ?_
  rintro e w2 ⟨rfl, b2⟩
  have hh := (b2.block _ (heap_lt HR.out.1)).trans HR.out.1
  have c0 := (cell_of_heap hh 0).trans rfl
  have c1 := (cell_of_heap hh 1).trans rfl
  have c2 := (cell_of_heap hh 2).trans rfl
  have c3 := (cell_of_heap hh 3).trans rfl
  have c4 := (cell_of_heap hh 4).trans rfl
  have c5 := (cell_of_heap hh 5).trans rfl
  have c6 := (cell_of_heap hh 6).trans rfl
  have c7 := (cell_of_heap hh 7).trans rfl
  have f0 := frozen_of_heap hh 0
  have f1 := frozen_of_heap hh 1
  have f2 := frozen_of_heap hh 2
  have f3 := frozen_of_heap hh 3
  have f4 := frozen_of_heap hh 4
  have f5 := frozen_of_heap hh 5
  have f6 := frozen_of_heap hh 6
  have f7 := frozen_of_heap hh 7
  have zo := heap_lt hh
  have hfin : ((((((((w2.setCell ⟨rb, 0, none⟩ (.int .i64 0)).setCell ⟨rb, 1, none⟩ (.int .i64 100)).setCell ⟨rb, 2, none⟩ (.int .i64 0)).setCell ⟨rb, 3, none⟩ (.int .i64 400)).setCell ⟨rb, 4, none⟩ (.int .i64 0)).setCell ⟨rb, 5, none⟩ (.int .i64 100)).setCell ⟨rb, 6, none⟩ (.int .i64 0)).setCell ⟨rb, 7, none⟩ (.int .i64 3)).heap[rb]? = some (.cells #[.int .i64 0, .int .i64 100, .int .i64 0, .int .i64 400, .int .i64 0, .int .i64 100, .int .i64 0, .int .i64 3] 159 (0, 0)) := (heap_set (heap_set (heap_set (heap_set (heap_set (heap_set (heap_set (heap_set hh 0 (.int .i64 0)) 1 (.int .i64 100)) 2 (.int .i64 0)) 3 (.int .i64 400)) 4 (.int .i64 0)) 5 (.int .i64 100)) 6 (.int .i64 0)) 7 (.int .i64 3))
  have H3 := Lib.hid (And.intro hfin (((((((((HR.out.2.1.trans (b2.mono HR.out.2.1.size)).setCell (p := ⟨rb, 0, none⟩) HR.out.2.2 (.int .i64 0)).setCell (p := ⟨rb, 1, none⟩) HR.out.2.2 (.int .i64 100)).setCell (p := ⟨rb, 2, none⟩) HR.out.2.2 (.int .i64 0)).setCell (p := ⟨rb, 3, none⟩) HR.out.2.2 (.int .i64 400)).setCell (p := ⟨rb, 4, none⟩) HR.out.2.2 (.int .i64 0)).setCell (p := ⟨rb, 5, none⟩) HR.out.2.2 (.int .i64 100)).setCell (p := ⟨rb, 6, none⟩) HR.out.2.2 (.int .i64 0)).setCell (p := ⟨rb, 7, none⟩) HR.out.2.2 (.int .i64 3)))
  clear hfin
  clear hh b2
  go_wp2_with fail
  exact bodyPost_ret (spans_results (r := 0) rfl H3.out.1 _ rfl) rfl ⟨rfl, H3.out.2⟩

set_option maxRecDepth 100000 in
theorem cell_any (x : Cel) (w : World) :
    Calls Tryz.prog 93 #[.agg (celA x)] w fun e w' => e = .returned (.agg (celA x)) ∧ Below w.heap.size w w' := by
  go_enter Tryz.func93, Tryz.ntmps93
  go_wp2_with fail
  exact bodyPost_ret (v := .agg (celA x)) (by simp [results, Tryz.results93, go_sem]) rfl ⟨rfl, ((Below.refl _ _).alloc (Nat.le_refl _) _).alloc (by simp) _⟩
set_option maxRecDepth 100000 in
theorem Whole_any (w : World) :
    Calls Tryz.prog 52 #[] w fun e w' => e = .returned (.agg #[.int .i64 0, .int .i64 100, .int .i64 0, .int .i64 400, .int .i64 0, .int .i64 100, .int .i64 0, .int .i64 3]) ∧ Below w.heap.size w w' := by
  have h0 : ∀ wx, Calls Tryz.prog 93 #[.agg #[.int .i64 0, .int .i64 100, .int .i64 0, .int .i64 400, .int .i64 0, .int .i64 100, .int .i64 0, .int .i64 3]] wx fun e w' => e = .returned (.agg #[.int .i64 0, .int .i64 100, .int .i64 0, .int .i64 400, .int .i64 0, .int .i64 100, .int .i64 0, .int .i64 3]) ∧ Below wx.heap.size wx w' := fun wx => cell_any celW wx
  have H := Lib.hid h0
  clear h0
  obtain ⟨W, hW⟩ : ∃ W, W = w.alloc (.cells #[.int .i64 0, .int .i64 0, .int .i64 0, .int .i64 0, .int .i64 0, .int .i64 0, .int .i64 0, .int .i64 0] 54) := ⟨_, rfl⟩
  obtain ⟨rb, hrb⟩ : ∃ b, b = w.heap.size := ⟨_, rfl⟩
  have hh : W.heap[rb]? = some (.cells #[.int .i64 0, .int .i64 0, .int .i64 0, .int .i64 0, .int .i64 0, .int .i64 0, .int .i64 0, .int .i64 0] 54 (0, 0)) := by rw [hW, hrb]; exact heap_alloc_new _ _
  have bW : Below w.heap.size w W := by rw [hW]; exact (Below.refl _ _).alloc (Nat.le_refl _) _
  have hrw : w.heap.size ≤ rb := by omega
  have HR := Lib.hid (And.intro hh (And.intro bW hrw))
  clear hh bW hrw
  go_enter Tryz.func52, Tryz.ntmps52
  go_upto_region 1 with fail
  rw [← hW, ← hrb]
  clear hW hrb
  go_wp2_with fail
  refine (whole_any _).mono ?_
  rintro e w1 ⟨rfl, b1⟩
  go_wp2_with fail
  refine (H.out _).mono ?_
  rintro e w2 ⟨rfl, b2⟩
  have b12 := b1.trans (b2.mono b1.size)
  have hh := (b12.block _ (heap_lt HR.out.1)).trans HR.out.1
  have c0 := (cell_of_heap hh 0).trans rfl
  have c1 := (cell_of_heap hh 1).trans rfl
  have c2 := (cell_of_heap hh 2).trans rfl
  have c3 := (cell_of_heap hh 3).trans rfl
  have c4 := (cell_of_heap hh 4).trans rfl
  have c5 := (cell_of_heap hh 5).trans rfl
  have c6 := (cell_of_heap hh 6).trans rfl
  have c7 := (cell_of_heap hh 7).trans rfl
  have f0 := frozen_of_heap hh 0
  have f1 := frozen_of_heap hh 1
  have f2 := frozen_of_heap hh 2
  have f3 := frozen_of_heap hh 3
  have f4 := frozen_of_heap hh 4
  have f5 := frozen_of_heap hh 5
  have f6 := frozen_of_heap hh 6
  have f7 := frozen_of_heap hh 7
  have zo := heap_lt hh
  have hfin : ((((((((w2.setCell ⟨rb, 0, none⟩ (.int .i64 0)).setCell ⟨rb, 1, none⟩ (.int .i64 100)).setCell ⟨rb, 2, none⟩ (.int .i64 0)).setCell ⟨rb, 3, none⟩ (.int .i64 400)).setCell ⟨rb, 4, none⟩ (.int .i64 0)).setCell ⟨rb, 5, none⟩ (.int .i64 100)).setCell ⟨rb, 6, none⟩ (.int .i64 0)).setCell ⟨rb, 7, none⟩ (.int .i64 3)).heap[rb]? = some (.cells #[.int .i64 0, .int .i64 100, .int .i64 0, .int .i64 400, .int .i64 0, .int .i64 100, .int .i64 0, .int .i64 3] 54 (0, 0)) := (heap_set (heap_set (heap_set (heap_set (heap_set (heap_set (heap_set (heap_set hh 0 (.int .i64 0)) 1 (.int .i64 100)) 2 (.int .i64 0)) 3 (.int .i64 400)) 4 (.int .i64 0)) 5 (.int .i64 100)) 6 (.int .i64 0)) 7 (.int .i64 3))
  have H3 := Lib.hid (And.intro hfin (((((((((HR.out.2.1.trans (b12.mono HR.out.2.1.size)).setCell (p := ⟨rb, 0, none⟩) HR.out.2.2 (.int .i64 0)).setCell (p := ⟨rb, 1, none⟩) HR.out.2.2 (.int .i64 100)).setCell (p := ⟨rb, 2, none⟩) HR.out.2.2 (.int .i64 0)).setCell (p := ⟨rb, 3, none⟩) HR.out.2.2 (.int .i64 400)).setCell (p := ⟨rb, 4, none⟩) HR.out.2.2 (.int .i64 0)).setCell (p := ⟨rb, 5, none⟩) HR.out.2.2 (.int .i64 100)).setCell (p := ⟨rb, 6, none⟩) HR.out.2.2 (.int .i64 0)).setCell (p := ⟨rb, 7, none⟩) HR.out.2.2 (.int .i64 3)))
  clear hfin
  clear hh b12 b1 b2
  go_wp2_with fail
  exact bodyPost_ret (celA_results (r := 0) rfl H3.out.1 _ rfl) rfl ⟨rfl, H3.out.2⟩
end Go.Proofs.YtbgnkljjgfcngaaGreat
/- copy of elements of several cells, within one block; what a block holds that repeats one element. No program is named here. -/
namespace Go.Proofs.YtbgnkljjgfcngaaGreat
open Go Go.RowKit
set_option linter.unusedVariables false
variable {P : Program}

theorem heap_setCells {g : Nat} {t : TypeId} {fr : Nat × Nat} : ∀ (vs : List Value) (o : Nat) (w : World) (cur : Array Value), w.heap[g]? = some (.cells cur t fr) → o + vs.length ≤ cur.size →
    ∃ cur' : Array Value, (w.setCells g o vs).heap[g]? = some (.cells cur' t fr) ∧ cur'.size = cur.size ∧ (∀ j, j < vs.length → cur'[o + j]? = vs[j]?) ∧ (∀ j, j < o ∨ o + vs.length ≤ j → cur'[j]? = cur[j]?)
  | [], o, w, cur, h, _ => ⟨cur, h, rfl, fun j hj => by simp at hj, fun _ _ => rfl⟩
  | v :: r, o, w, cur, h, hl => by
    obtain ⟨cur', h1, h2, h3, h4⟩ := heap_setCells r (o + 1) (w.setCell ⟨g, o, none⟩ v) (cur.setIfInBounds o v) (heap_set h o v) (by simp at hl ⊢; omega)
    simp only [List.length_cons] at hl ⊢
    refine ⟨cur', h1, by rw [h2]; simp, fun j hj => ?_, fun j hj => ?_⟩
    · cases j with
      | zero =>
        rw [h4 _ (by omega), Nat.add_zero, Array.getElem?_setIfInBounds_self_of_lt (by omega)]; rfl
      | succ j =>
        have := h3 j (by omega)
        rw [show o + (j + 1) = o + 1 + j from by omega, this]; rfl
    · rw [h4 j (by omega), Array.getElem?_setIfInBounds_ne (by omega)]
theorem Keep.setCells {S : List Nat} {w w' : World} (h : Keep S w w') {g : Nat} (hg : g ∈ S ∨ w.heap.size ≤ g) : ∀ (vs : List Value) (o : Nat), Keep S w (w'.setCells g o vs)
  | [], _ => h
  | v :: r, o => by
    rw [World.setCells]
    exact Keep.setCells (w' := w'.setCell ⟨g, o, none⟩ v) (h.setCell hg v) hg r (o + 1)

theorem run_copy_N (w : World) (dT sT ty elem : TypeId) (size b o dLen dCap : Nat) (a : Addr) (sLen sCap : Nat) (cs : List Value)
    (hu : P.underlying dT = some (.slice elem)) (hs : (P.info? elem).map (·.size) = some size) (hn : cs.length = Nat.min sLen dLen * size)
    (hsrc : ∀ j v, cs[j]? = some v → w.cell? (a.add j) = some v) (hc : ∀ j, j < cs.length → (w.cell? ⟨b, o + j, none⟩).isSome = true) (hf : ∀ j, j < cs.length → w.frozen? ⟨b, o + j, none⟩ = false) (h1 : ∀ v ∈ cs, v.oneCell' = true) :
    (Builtin.copy_ #[dT, sT] ty #[.slice (some ⟨b, o, none⟩) dLen dCap, .slice (some a) sLen sCap]).run P w = .ok (goInt (Nat.min sLen dLen)) (w.setCells b o cs) := by
  have hl := run_loadCells_list (P := P) w a cs hsrc
  have hst := run_storeCells_cells (P := P) b o cs 0 w (by simpa using hc) (by simpa using hf) h1
  cases hq : P.info? elem with
  | none => simp [hq] at hs
  | some i =>
    have hi : i.size = size := by simpa [hq] using hs
    simp [Builtin.copy_, run_underlying hu, Builtin.lenOf, Builtin.firstCells, sizeOf, typeInfo, hq, hi, ← hn, hl, hst]

/-- the first n elements of the block are the one whose cells are ys -/
def RepSt (ys : List Value) (n len : Nat) (cur : Array Value) : Prop := cur.size = len * ys.length ∧ ∀ j, j < n * ys.length → cur[j]? = ys[j % ys.length]?

/-- a copy of the first m elements behind the first n -/
theorem rep_copy {w : World} {dT sT ty elem : TypeId} {g n m len dCap sCap : Nat} {ys : List Value} {cur : Array Value} {t : TypeId}
    (hu : P.underlying dT = some (.slice elem)) (hs : (P.info? elem).map (·.size) = some ys.length) (hy : 0 < ys.length) (h1 : ∀ v ∈ ys, v.oneCell' = true)
    (hh : w.heap[g]? = some (.cells cur t (0, 0))) (hR : RepSt ys n len cur) (hn : n ≤ len) (hm : m = min n (len - n)) :
    ∃ w', (Builtin.copy_ #[dT, sT] ty #[.slice (some ⟨g, n * ys.length, none⟩) (len - n) dCap, .slice (some ⟨g, 0, none⟩) n sCap]).run P w = .ok (goInt m) w' ∧
      (∃ cur', w'.heap[g]? = some (.cells cur' t (0, 0)) ∧ RepSt ys (n + m) len cur') ∧ Keep [g] w w' ∧ w'.heap.size = w.heap.size := by
  obtain ⟨hz, hv⟩ := hR
  have hmn : m ≤ n := by omega
  have hms : n * ys.length + m * ys.length ≤ len * ys.length := by rw [← Nat.add_mul]; exact Nat.mul_le_mul_right _ (by omega)
  have hmn' : m * ys.length ≤ n * ys.length := Nat.mul_le_mul_right _ hmn
  have hlen : ((List.range (m * ys.length)).map fun j => ys.getD (j % ys.length) undef).length = m * ys.length := by simp
  obtain ⟨cs, hcs⟩ : ∃ cs : List Value, cs = (List.range (m * ys.length)).map fun j => ys.getD (j % ys.length) undef := ⟨_, rfl⟩
  have hcl : cs.length = m * ys.length := by rw [hcs]; exact hlen
  have hcg : ∀ j, j < m * ys.length → cs[j]? = ys[j % ys.length]? := fun j hj => by
    have hlt : j % ys.length < ys.length := Nat.mod_lt _ hy
    rw [hcs, List.getElem?_map, List.getElem?_range hj, List.getElem?_eq_getElem hlt]
    simp [List.getD_eq_getElem?_getD, List.getElem?_eq_getElem hlt]
  have hc := cell_of_heap hh
  obtain ⟨cur', e1, e2, e3, e4⟩ := heap_setCells cs (n * ys.length) w cur hh (by omega)
  refine ⟨w.setCells g (n * ys.length) cs, ?_, ⟨cur', e1, ?_⟩, (Keep.refl _ _).setCells (.inl (by simp)) _ _, ?_⟩
  · have hmin : Nat.min n (len - n) = m := hm.symm
    have := run_copy_N (P := P) w dT sT ty elem ys.length g (n * ys.length) (len - n) dCap ⟨g, 0, none⟩ n sCap cs hu hs (by rw [hcl, hmin])
      (fun j v hj => by
        have hjl : j < m * ys.length := by rw [← hcl]; exact (List.getElem?_eq_some_iff.1 hj).1
        rw [show (⟨g, 0, none⟩ : Addr).add j = ⟨g, j, none⟩ from by simp [Addr.add]; omega, hc, hv j (by omega), ← hcg j hjl]; exact hj)
      (fun j hj => by
        rw [hc, Array.getElem?_eq_getElem (by omega)]; rfl)
      (fun j hj => frozen_of_heap hh _)
      (fun v hv' => by
        obtain ⟨j, hj, rfl⟩ := List.mem_iff_getElem.1 hv'
        have hjm : j < m * ys.length := by omega
        have hlt : j % ys.length < ys.length := Nat.mod_lt _ hy
        have := hcg j hjm
        rw [List.getElem?_eq_getElem hj, List.getElem?_eq_getElem hlt] at this
        injection this with this
        rw [this]
        exact h1 _ (List.getElem_mem hlt))
    rw [hmin] at this
    exact this
  · refine ⟨by rw [e2, hz], fun j hj => ?_⟩
    rw [Nat.add_mul] at hj
    by_cases h : j < n * ys.length
    · rw [e4 j (.inl h), hv j h]
    · have := e3 (j - n * ys.length) (by omega)
      rw [show n * ys.length + (j - n * ys.length) = j from by omega] at this
      rw [this, hcg _ (by omega)]
      have e : (j - n * ys.length) % ys.length = j % ys.length := by
        conv => rhs; rw [show j = (j - n * ys.length) + n * ys.length from by omega]
        rw [Nat.add_mul_mod_self_right]
      rw [e]
  · have : ∀ (vs : List Value) (o : Nat) (w : World), (w.setCells g o vs).heap.size = w.heap.size := by
      intro vs
      induction vs with
      | nil => intro _ _; rfl
      | cons v r ih => intro o w; rw [World.setCells, ih]; simp [World.setCell]
    exact this _ _ _
/-- the first copy: one element -/
theorem rep_first {w : World} {dT sT ty elem : TypeId} {g len dCap sCap : Nat} {ad : Addr} {ys : List Value} {cur : Array Value} {t : TypeId}
    (hu : P.underlying dT = some (.slice elem)) (hs : (P.info? elem).map (·.size) = some ys.length) (hy : 0 < ys.length) (h1 : ∀ v ∈ ys, v.oneCell' = true)
    (hh : w.heap[g]? = some (.cells cur t (0, 0))) (hz : cur.size = len * ys.length) (hl : 0 < len) (hsrc : ∀ j v, ys[j]? = some v → w.cell? (ad.add j) = some v) :
    ∃ w', (Builtin.copy_ #[dT, sT] ty #[.slice (some ⟨g, 0, none⟩) len dCap, .slice (some ad) 1 sCap]).run P w = .ok (goInt 1) w' ∧
      (∃ cur', w'.heap[g]? = some (.cells cur' t (0, 0)) ∧ RepSt ys 1 len cur') ∧ Keep [g] w w' := by
  have hfit : ys.length ≤ len * ys.length := Nat.le_mul_of_pos_left _ hl
  obtain ⟨cur', e1, e2, e3, e4⟩ := heap_setCells ys 0 w cur hh (by omega)
  refine ⟨w.setCells g 0 ys, ?_, ⟨cur', e1, by rw [e2, hz], fun j hj => ?_⟩, (Keep.refl _ _).setCells (.inl (by simp)) _ _⟩
  · have hmin : Nat.min 1 len = 1 := by simp [Nat.min_def]; omega
    have := run_copy_N (P := P) w dT sT ty elem ys.length g 0 len dCap ad 1 sCap ys hu hs (by rw [hmin, Nat.one_mul]) hsrc
      (fun j hj => by rw [cell_of_heap hh, Array.getElem?_eq_getElem (by omega)]; rfl) (fun j hj => frozen_of_heap hh _) h1
    rw [hmin] at this
    exact this
  · rw [Nat.one_mul] at hj
    have := e3 j hj
    rw [Nat.zero_add] at this
    rw [this, Nat.mod_eq_of_lt hj]
end Go.Proofs.YtbgnkljjgfcngaaGreat
