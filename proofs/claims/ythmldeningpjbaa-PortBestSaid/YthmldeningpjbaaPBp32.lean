/- polynyalaw09.Example (printed by wip/tools/ptexample.py) -/
import Derived.Test.YthmldeningpjbaaPBp19
import Derived.Test.YthmldeningpjbaaPBp30
set_option linter.unusedVariables false
set_option linter.unusedSimpArgs false
namespace Go.Proofs.Ythmldeningpjbaa
open Go Go.RowKit Sp Pt
set_option linter.unusedVariables false
set_option linter.unusedSimpArgs false

def exPrt : Prt := ⟨[⟨10, 1, 25⟩], [⟨900, [0]⟩], 3⟩
def exPln : Pln := ⟨24, [⟨2, 0, false, 800, 60, 1⟩, ⟨20, 0, true, 800, 60, 1⟩], [⟨19, 0, 2⟩]⟩

set_option linter.unusedVariables false
def ExV (W0 : World) (b0 b1 b2 b4 b5 b6 b7 b8 : Nat) : Nat → Value → Prop
  | 0, v => v = .agg #[.slice (some ⟨b2, 0, none⟩) 1 1, .slice (some ⟨b4, 0, none⟩) 1 1, .int .i64 3]
  | 1, v => v = .agg #[.int .i64 24, .slice (some ⟨b6, 0, none⟩) 2 2, .slice (some ⟨b7, 0, none⟩) 1 1]
  | _, _ => True
def ExW (W0 : World) (b0 b1 b2 b4 b5 b6 b7 b8 : Nat) (l : Nat → Bool) (w : World) : Prop := Keep [b0, b1] W0 w ∧ w.heap[b0]? = some (.cells (if l 2 then #[.slice (some ⟨b2, 0, none⟩) 1 1, .slice (some ⟨b4, 0, none⟩) 1 1, .int .i64 3] else #[.slice none 0 0, .slice none 0 0, .int .i64 0]) 26 (0, 0)) ∧ w.heap[b1]? = some (.cells (if l 3 then #[.int .i64 24, .slice (some ⟨b6, 0, none⟩) 2 2, .slice (some ⟨b7, 0, none⟩) 1 1] else #[.int .i64 0, .slice none 0 0, .slice none 0 0]) 31 (0, 0))

theorem ex_results {F : Func} (hF : F.results = #[.cell 0 26, .cell 1 31]) {W : World} {b0 b1 : Nat} {u0 u1 u2 v0 v1 v2 : Value} (h : W.heap[b0]? = some (.cells #[u0, u1, u2] 26 (0, 0))) (h' : W.heap[b1]? = some (.cells #[v0, v1, v2] 31 (0, 0))) (tmps : Array Value) (hr : tmps.getD 0 undef = .pointer (some ⟨b0, 0, none⟩)) (hs : tmps.getD 1 undef = .pointer (some ⟨b1, 0, none⟩))
    (n0 : ∃ A n c, u0 = .slice A n c) (n1 : ∃ A n c, u1 = .slice A n c) (n2 : ∃ x, u2 = .int .i64 x) (m0 : ∃ x, v0 = .int .i64 x) (m1 : ∃ A n c, v1 = .slice A n c) (m2 : ∃ A n c, v2 = .slice A n c) :
    (results F tmps).run Try.prog W = .ok (.tuple #[.agg #[u0, u1, u2], .agg #[v0, v1, v2]]) W := by
  have g0 : tmps[0]?.getD undef = .pointer (some ⟨b0, 0, none⟩) := by simpa using hr
  have g1 : tmps[1]?.getD undef = .pointer (some ⟨b1, 0, none⟩) := by simpa using hs
  obtain ⟨_, _, _, rfl⟩ := n0
  obtain ⟨_, _, _, rfl⟩ := n1
  obtain ⟨_, rfl⟩ := n2
  obtain ⟨_, rfl⟩ := m0
  obtain ⟨_, _, _, rfl⟩ := m1
  obtain ⟨_, _, _, rfl⟩ := m2
  have c0 := (cell_of_heap h 0).trans rfl
  have c1 := (cell_of_heap h 1).trans rfl
  have c2 := (cell_of_heap h 2).trans rfl
  have d0 := (cell_of_heap h' 0).trans rfl
  have d1 := (cell_of_heap h' 1).trans rfl
  have d2 := (cell_of_heap h' 2).trans rfl
  simp [results, hF, g0, g1, asAddr, go_sem, c0, c1, c2, d0, d1, d2]

def ExPost (w : World) (e : Ending) (w' : World) : Prop :=
  ∃ b2 b3 b4 b6 b7, e = .returned (.tuple #[.agg (prtV (some ⟨b2, 0, none⟩) 1 (some ⟨b4, 0, none⟩) 1 exPrt), .agg (plnV (some ⟨b6, 0, none⟩) 2 (some ⟨b7, 0, none⟩) 1 exPln)]) ∧
    PrtB w'.heap.size w' (some ⟨b2, 0, none⟩) 1 (some ⟨b4, 0, none⟩) 1 exPrt ∧ PlnB w'.heap.size w' (some ⟨b6, 0, none⟩) 2 (some ⟨b7, 0, none⟩) 1 exPln ∧ w'.heap[b4]? = some (.cells #[.int .i64 900, .slice (some ⟨b3, 0, none⟩) 1 1] 53 (0, 0)) ∧ PathB w'.heap.size w' (some ⟨b3, 0, none⟩) 1 [0] ∧ (b2 < b3 ∧ b3 < b4 ∧ w.heap.size ≤ b2) ∧ Below w.heap.size w w'

set_option maxRecDepth 100000 in
set_option maxHeartbeats 4000000 in
theorem ExampleP_any (w : World) : Calls Try.prog 69 #[] w (ExPost w) := by
  go_enter Try.func69, Try.ntmps69
  go_upto_region 3 with fail
  obtain ⟨b0, e0⟩ : ∃ b, b = w.heap.size := ⟨_, rfl⟩
  obtain ⟨b1, e1⟩ : ∃ b, b = w.heap.size + 1 := ⟨_, rfl⟩
  obtain ⟨b2, e2⟩ : ∃ b, b = w.heap.size + 1 + 1 := ⟨_, rfl⟩
  obtain ⟨b3, e3⟩ : ∃ b, b = w.heap.size + 1 + 1 + 1 := ⟨_, rfl⟩
  obtain ⟨b4, e4⟩ : ∃ b, b = w.heap.size + 1 + 1 + 1 + 1 := ⟨_, rfl⟩
  obtain ⟨b5, e5⟩ : ∃ b, b = w.heap.size + 1 + 1 + 1 + 1 + 1 := ⟨_, rfl⟩
  obtain ⟨b6, e6⟩ : ∃ b, b = w.heap.size + 1 + 1 + 1 + 1 + 1 + 1 := ⟨_, rfl⟩
  obtain ⟨b7, e7⟩ : ∃ b, b = w.heap.size + 1 + 1 + 1 + 1 + 1 + 1 + 1 := ⟨_, rfl⟩
  obtain ⟨b8, e8⟩ : ∃ b, b = w.heap.size + 1 + 1 + 1 + 1 + 1 + 1 + 1 + 1 := ⟨_, rfl⟩
  rw [← e8]
  rw [← e7]
  rw [← e6]
  rw [← e5]
  rw [← e4]
  rw [← e3]
  rw [← e2]
  rw [← e1]
  rw [← e0]
  obtain ⟨W1, x1⟩ : ∃ W, W = w.alloc (.cells #[.slice none 0 0, .slice none 0 0, .int .i64 0] 26) := ⟨_, rfl⟩
  rw [← x1]
  obtain ⟨W2, x2⟩ : ∃ W, W = W1.alloc (.cells #[.int .i64 0, .slice none 0 0, .slice none 0 0] 31) := ⟨_, rfl⟩
  rw [← x2]
  obtain ⟨W3, x3⟩ : ∃ W, W = W2.alloc (.cells #[.int .i64 10, .int .i64 1, .int .i64 25] 144) := ⟨_, rfl⟩
  rw [← x3]
  obtain ⟨W4, x4⟩ : ∃ W, W = W3.alloc (.cells #[.int .i64 0] 3) := ⟨_, rfl⟩
  rw [← x4]
  obtain ⟨W5, x5⟩ : ∃ W, W = W4.alloc (.cells #[.int .i64 900, .slice (some ⟨b3, 0, none⟩) 1 1] 53) := ⟨_, rfl⟩
  rw [← x5]
  obtain ⟨W6, x6⟩ : ∃ W, W = W5.alloc (.cells #[.slice (some ⟨b2, 0, none⟩) 1 1, .slice (some ⟨b4, 0, none⟩) 1 1, .int .i64 3] 26) := ⟨_, rfl⟩
  rw [← x6]
  obtain ⟨W7, x7⟩ : ∃ W, W = W6.alloc (.cells #[.int .i64 2, .int .i64 0, .bool false, .int .i64 800, .int .i64 60, .int .i64 1, .int .i64 20, .int .i64 0, .bool true, .int .i64 800, .int .i64 60, .int .i64 1] 55) := ⟨_, rfl⟩
  rw [← x7]
  obtain ⟨W8, x8⟩ : ∃ W, W = W7.alloc (.cells #[.int .i64 19, .int .i64 0, .int .i64 2] 126) := ⟨_, rfl⟩
  rw [← x8]
  obtain ⟨W9, x9⟩ : ∃ W, W = W8.alloc (.cells #[.int .i64 24, .slice (some ⟨b6, 0, none⟩) 2 2, .slice (some ⟨b7, 0, none⟩) 1 1] 31) := ⟨_, rfl⟩
  rw [← x9]
  have s1 : W1.heap.size = w.heap.size + 1 := by rw [x1, World.size_alloc]
  have h0 : W1.heap[b0]? = some (.cells #[.slice none 0 0, .slice none 0 0, .int .i64 0] 26 (0, 0)) := by rw [x1, show b0 = w.heap.size from by omega]; exact heap_alloc_new _ _
  replace h0 := heap_alloc' h0 (.cells #[.int .i64 0, .slice none 0 0, .slice none 0 0] 31)
  rw [← x2] at h0
  replace h0 := heap_alloc' h0 (.cells #[.int .i64 10, .int .i64 1, .int .i64 25] 144)
  rw [← x3] at h0
  replace h0 := heap_alloc' h0 (.cells #[.int .i64 0] 3)
  rw [← x4] at h0
  replace h0 := heap_alloc' h0 (.cells #[.int .i64 900, .slice (some ⟨b3, 0, none⟩) 1 1] 53)
  rw [← x5] at h0
  replace h0 := heap_alloc' h0 (.cells #[.slice (some ⟨b2, 0, none⟩) 1 1, .slice (some ⟨b4, 0, none⟩) 1 1, .int .i64 3] 26)
  rw [← x6] at h0
  replace h0 := heap_alloc' h0 (.cells #[.int .i64 2, .int .i64 0, .bool false, .int .i64 800, .int .i64 60, .int .i64 1, .int .i64 20, .int .i64 0, .bool true, .int .i64 800, .int .i64 60, .int .i64 1] 55)
  rw [← x7] at h0
  replace h0 := heap_alloc' h0 (.cells #[.int .i64 19, .int .i64 0, .int .i64 2] 126)
  rw [← x8] at h0
  replace h0 := heap_alloc' h0 (.cells #[.int .i64 24, .slice (some ⟨b6, 0, none⟩) 2 2, .slice (some ⟨b7, 0, none⟩) 1 1] 31)
  rw [← x9] at h0
  have s2 : W2.heap.size = W1.heap.size + 1 := by rw [x2, World.size_alloc]
  have h1 : W2.heap[b1]? = some (.cells #[.int .i64 0, .slice none 0 0, .slice none 0 0] 31 (0, 0)) := by rw [x2, show b1 = W1.heap.size from by omega]; exact heap_alloc_new _ _
  replace h1 := heap_alloc' h1 (.cells #[.int .i64 10, .int .i64 1, .int .i64 25] 144)
  rw [← x3] at h1
  replace h1 := heap_alloc' h1 (.cells #[.int .i64 0] 3)
  rw [← x4] at h1
  replace h1 := heap_alloc' h1 (.cells #[.int .i64 900, .slice (some ⟨b3, 0, none⟩) 1 1] 53)
  rw [← x5] at h1
  replace h1 := heap_alloc' h1 (.cells #[.slice (some ⟨b2, 0, none⟩) 1 1, .slice (some ⟨b4, 0, none⟩) 1 1, .int .i64 3] 26)
  rw [← x6] at h1
  replace h1 := heap_alloc' h1 (.cells #[.int .i64 2, .int .i64 0, .bool false, .int .i64 800, .int .i64 60, .int .i64 1, .int .i64 20, .int .i64 0, .bool true, .int .i64 800, .int .i64 60, .int .i64 1] 55)
  rw [← x7] at h1
  replace h1 := heap_alloc' h1 (.cells #[.int .i64 19, .int .i64 0, .int .i64 2] 126)
  rw [← x8] at h1
  replace h1 := heap_alloc' h1 (.cells #[.int .i64 24, .slice (some ⟨b6, 0, none⟩) 2 2, .slice (some ⟨b7, 0, none⟩) 1 1] 31)
  rw [← x9] at h1
  have s3 : W3.heap.size = W2.heap.size + 1 := by rw [x3, World.size_alloc]
  have h2 : W3.heap[b2]? = some (.cells #[.int .i64 10, .int .i64 1, .int .i64 25] 144 (0, 0)) := by rw [x3, show b2 = W2.heap.size from by omega]; exact heap_alloc_new _ _
  replace h2 := heap_alloc' h2 (.cells #[.int .i64 0] 3)
  rw [← x4] at h2
  replace h2 := heap_alloc' h2 (.cells #[.int .i64 900, .slice (some ⟨b3, 0, none⟩) 1 1] 53)
  rw [← x5] at h2
  replace h2 := heap_alloc' h2 (.cells #[.slice (some ⟨b2, 0, none⟩) 1 1, .slice (some ⟨b4, 0, none⟩) 1 1, .int .i64 3] 26)
  rw [← x6] at h2
  replace h2 := heap_alloc' h2 (.cells #[.int .i64 2, .int .i64 0, .bool false, .int .i64 800, .int .i64 60, .int .i64 1, .int .i64 20, .int .i64 0, .bool true, .int .i64 800, .int .i64 60, .int .i64 1] 55)
  rw [← x7] at h2
  replace h2 := heap_alloc' h2 (.cells #[.int .i64 19, .int .i64 0, .int .i64 2] 126)
  rw [← x8] at h2
  replace h2 := heap_alloc' h2 (.cells #[.int .i64 24, .slice (some ⟨b6, 0, none⟩) 2 2, .slice (some ⟨b7, 0, none⟩) 1 1] 31)
  rw [← x9] at h2
  have s4 : W4.heap.size = W3.heap.size + 1 := by rw [x4, World.size_alloc]
  have h3 : W4.heap[b3]? = some (.cells #[.int .i64 0] 3 (0, 0)) := by rw [x4, show b3 = W3.heap.size from by omega]; exact heap_alloc_new _ _
  replace h3 := heap_alloc' h3 (.cells #[.int .i64 900, .slice (some ⟨b3, 0, none⟩) 1 1] 53)
  rw [← x5] at h3
  replace h3 := heap_alloc' h3 (.cells #[.slice (some ⟨b2, 0, none⟩) 1 1, .slice (some ⟨b4, 0, none⟩) 1 1, .int .i64 3] 26)
  rw [← x6] at h3
  replace h3 := heap_alloc' h3 (.cells #[.int .i64 2, .int .i64 0, .bool false, .int .i64 800, .int .i64 60, .int .i64 1, .int .i64 20, .int .i64 0, .bool true, .int .i64 800, .int .i64 60, .int .i64 1] 55)
  rw [← x7] at h3
  replace h3 := heap_alloc' h3 (.cells #[.int .i64 19, .int .i64 0, .int .i64 2] 126)
  rw [← x8] at h3
  replace h3 := heap_alloc' h3 (.cells #[.int .i64 24, .slice (some ⟨b6, 0, none⟩) 2 2, .slice (some ⟨b7, 0, none⟩) 1 1] 31)
  rw [← x9] at h3
  have s5 : W5.heap.size = W4.heap.size + 1 := by rw [x5, World.size_alloc]
  have h4 : W5.heap[b4]? = some (.cells #[.int .i64 900, .slice (some ⟨b3, 0, none⟩) 1 1] 53 (0, 0)) := by rw [x5, show b4 = W4.heap.size from by omega]; exact heap_alloc_new _ _
  replace h4 := heap_alloc' h4 (.cells #[.slice (some ⟨b2, 0, none⟩) 1 1, .slice (some ⟨b4, 0, none⟩) 1 1, .int .i64 3] 26)
  rw [← x6] at h4
  replace h4 := heap_alloc' h4 (.cells #[.int .i64 2, .int .i64 0, .bool false, .int .i64 800, .int .i64 60, .int .i64 1, .int .i64 20, .int .i64 0, .bool true, .int .i64 800, .int .i64 60, .int .i64 1] 55)
  rw [← x7] at h4
  replace h4 := heap_alloc' h4 (.cells #[.int .i64 19, .int .i64 0, .int .i64 2] 126)
  rw [← x8] at h4
  replace h4 := heap_alloc' h4 (.cells #[.int .i64 24, .slice (some ⟨b6, 0, none⟩) 2 2, .slice (some ⟨b7, 0, none⟩) 1 1] 31)
  rw [← x9] at h4
  have s6 : W6.heap.size = W5.heap.size + 1 := by rw [x6, World.size_alloc]
  have h5 : W6.heap[b5]? = some (.cells #[.slice (some ⟨b2, 0, none⟩) 1 1, .slice (some ⟨b4, 0, none⟩) 1 1, .int .i64 3] 26 (0, 0)) := by rw [x6, show b5 = W5.heap.size from by omega]; exact heap_alloc_new _ _
  replace h5 := heap_alloc' h5 (.cells #[.int .i64 2, .int .i64 0, .bool false, .int .i64 800, .int .i64 60, .int .i64 1, .int .i64 20, .int .i64 0, .bool true, .int .i64 800, .int .i64 60, .int .i64 1] 55)
  rw [← x7] at h5
  replace h5 := heap_alloc' h5 (.cells #[.int .i64 19, .int .i64 0, .int .i64 2] 126)
  rw [← x8] at h5
  replace h5 := heap_alloc' h5 (.cells #[.int .i64 24, .slice (some ⟨b6, 0, none⟩) 2 2, .slice (some ⟨b7, 0, none⟩) 1 1] 31)
  rw [← x9] at h5
  have s7 : W7.heap.size = W6.heap.size + 1 := by rw [x7, World.size_alloc]
  have h6 : W7.heap[b6]? = some (.cells #[.int .i64 2, .int .i64 0, .bool false, .int .i64 800, .int .i64 60, .int .i64 1, .int .i64 20, .int .i64 0, .bool true, .int .i64 800, .int .i64 60, .int .i64 1] 55 (0, 0)) := by rw [x7, show b6 = W6.heap.size from by omega]; exact heap_alloc_new _ _
  replace h6 := heap_alloc' h6 (.cells #[.int .i64 19, .int .i64 0, .int .i64 2] 126)
  rw [← x8] at h6
  replace h6 := heap_alloc' h6 (.cells #[.int .i64 24, .slice (some ⟨b6, 0, none⟩) 2 2, .slice (some ⟨b7, 0, none⟩) 1 1] 31)
  rw [← x9] at h6
  have s8 : W8.heap.size = W7.heap.size + 1 := by rw [x8, World.size_alloc]
  have h7 : W8.heap[b7]? = some (.cells #[.int .i64 19, .int .i64 0, .int .i64 2] 126 (0, 0)) := by rw [x8, show b7 = W7.heap.size from by omega]; exact heap_alloc_new _ _
  replace h7 := heap_alloc' h7 (.cells #[.int .i64 24, .slice (some ⟨b6, 0, none⟩) 2 2, .slice (some ⟨b7, 0, none⟩) 1 1] 31)
  rw [← x9] at h7
  have s9 : W9.heap.size = W8.heap.size + 1 := by rw [x9, World.size_alloc]
  have h8 : W9.heap[b8]? = some (.cells #[.int .i64 24, .slice (some ⟨b6, 0, none⟩) 2 2, .slice (some ⟨b7, 0, none⟩) 1 1] 31 (0, 0)) := by rw [x9, show b8 = W8.heap.size from by omega]; exact heap_alloc_new _ _
  have bb : Below w.heap.size w W9 := by
    rw [x9, x8, x7, x6, x5, x4, x3, x2, x1]
    exact ((((((((((Below.refl _ _).alloc (Nat.le_refl _) _).alloc (by simp <;> omega) _).alloc (by simp <;> omega) _).alloc (by simp <;> omega) _).alloc (by simp <;> omega) _).alloc (by simp <;> omega) _).alloc (by simp <;> omega) _).alloc (by simp <;> omega) _).alloc (by simp <;> omega) _)
  have hord : b0 < b1 ∧ b1 < b2 ∧ b2 < b3 ∧ b3 < b4 ∧ b4 < b5 ∧ b5 < b6 ∧ b6 < b7 ∧ b7 < b8 ∧ w.heap.size = b0 := by omega
  have qp0 : W9.cell? ⟨b5, 0, none⟩ = some (.slice (some ⟨b2, 0, none⟩) 1 1) := (cell_of_heap h5 0).trans rfl
  have qp1 : W9.cell? ⟨b5, 1, none⟩ = some (.slice (some ⟨b4, 0, none⟩) 1 1) := (cell_of_heap h5 1).trans rfl
  have qp2 : W9.cell? ⟨b5, 2, none⟩ = some (.int .i64 3) := (cell_of_heap h5 2).trans rfl
  have ql0 : W9.cell? ⟨b8, 0, none⟩ = some (.int .i64 24) := (cell_of_heap h8 0).trans rfl
  have ql1 : W9.cell? ⟨b8, 1, none⟩ = some (.slice (some ⟨b6, 0, none⟩) 2 2) := (cell_of_heap h8 1).trans rfl
  have ql2 : W9.cell? ⟨b8, 2, none⟩ = some (.slice (some ⟨b7, 0, none⟩) 1 1) := (cell_of_heap h8 2).trans rfl
  have z5 := heap_lt h5
  have z8 := heap_lt h8
  have H := Lib.hid (And.intro h2 (And.intro h3 (And.intro h4 (And.intro h6 (And.intro h7 bb)))))
  clear e0 e1 e2 e3 e4 e5 e6 e7 e8 x1 x2 x3 x4 x5 x6 x7 x8 x9 s1 s2 s3 s4 s5 s6 s7 s8 s9 h2 h3 h4 h5 h6 h7 h8 bb
  refine wp_region_steps (σ := Unit) (by kernel_rfl) (by kernel_rfl) (fun _ jx vx _ => ExV W9 b0 b1 b2 b4 b5 b6 b7 b8 jx vx) (fun _ ly wx => ExW W9 b0 b1 b2 b4 b5 b6 b7 b8 ly wx) () ?_ ?_ ?_
  · exact ⟨(Keep.refl _ _).drew, h0, h1⟩
  · simp only [AllFrom, Nat.zero_add, Nat.reduceAdd]
    refine ⟨?_, ?_, ?_, ?_, trivial⟩
    · refine step_pure fun sg ly a wr hl hd hW hF => ?_
      have et2 := hF.old 2 (by kernel_rfl)
      simp [Act.eval] at et2
      have c0 := hW.1.cell qp0 (by simp; omega)
      have c1 := hW.1.cell qp1 (by simp; omega)
      have c2 := hW.1.cell qp2 (by simp; omega)
      exact ⟨by simpa [ExW, upd] using hW, .agg #[.slice (some ⟨b2, 0, none⟩) 1 1, .slice (some ⟨b4, 0, none⟩) 1 1, .int .i64 3], by go_simp, rfl⟩
    · refine step_pure fun sg ly a wr hl hd hW hF => ?_
      have et3 := hF.old 3 (by kernel_rfl)
      simp [Act.eval] at et3
      have c0 := hW.1.cell ql0 (by simp; omega)
      have c1 := hW.1.cell ql1 (by simp; omega)
      have c2 := hW.1.cell ql2 (by simp; omega)
      exact ⟨by simpa [ExW, upd] using hW, .agg #[.int .i64 24, .slice (some ⟨b6, 0, none⟩) 2 2, .slice (some ⟨b7, 0, none⟩) 1 1], by go_simp, rfl⟩
    · refine step_store rfl fun sg ly a wr hl hd hW hF => ?_
      simp [Region.binds] at hd
      have et0 := hF.old 0 (by kernel_rfl)
      simp [Act.eval] at et0
      have et16 := hF.new 0 16 (by simp [hd]) rfl
      simp [ExV, Act.eval] at et16
      obtain ⟨h0, h1, h2⟩ := hW
      rw [if_neg (by simp [hl])] at h1
      have c0 := (cell_of_heap h1 0).trans rfl
      have c1 := (cell_of_heap h1 1).trans rfl
      have c2 := (cell_of_heap h1 2).trans rfl
      have f0 := frozen_of_heap h1 0
      have f1 := frozen_of_heap h1 1
      have f2 := frozen_of_heap h1 2
      have z0 := heap_lt h1
      refine ⟨((wr.setCell ⟨b0, 0, none⟩ (.slice (some ⟨b2, 0, none⟩) 1 1)).setCell ⟨b0, 1, none⟩ (.slice (some ⟨b4, 0, none⟩) 1 1)).setCell ⟨b0, 2, none⟩ (.int .i64 3), (), .skip, by go_simp, .inl rfl, ⟨((h0.setCell (.inl (by simp)) _).setCell (.inl (by simp)) _).setCell (.inl (by simp)) _, by rw [if_pos (by simp [upd])]; exact st3_heap' h1 _ _ _, heap_set_ne (heap_set_ne (heap_set_ne h2 (by simp only; omega) _) (by simp only; omega) _) (by simp only; omega) _⟩, fun _ _ _ h => h⟩
    · refine step_store rfl fun sg ly a wr hl hd hW hF => ?_
      simp [Region.binds] at hd
      have et1 := hF.old 1 (by kernel_rfl)
      simp [Act.eval] at et1
      have et17 := hF.new 1 17 (by simp [hd]) rfl
      simp [ExV, Act.eval] at et17
      obtain ⟨h0, h1, h2⟩ := hW
      rw [if_neg (by simp [hl])] at h2
      have c0 := (cell_of_heap h2 0).trans rfl
      have c1 := (cell_of_heap h2 1).trans rfl
      have c2 := (cell_of_heap h2 2).trans rfl
      have f0 := frozen_of_heap h2 0
      have f1 := frozen_of_heap h2 1
      have f2 := frozen_of_heap h2 2
      have z0 := heap_lt h2
      refine ⟨((wr.setCell ⟨b1, 0, none⟩ (.int .i64 24)).setCell ⟨b1, 1, none⟩ (.slice (some ⟨b6, 0, none⟩) 2 2)).setCell ⟨b1, 2, none⟩ (.slice (some ⟨b7, 0, none⟩) 1 1), (), .skip, by go_simp, .inl rfl, ⟨((h0.setCell (.inl (by simp)) _).setCell (.inl (by simp)) _).setCell (.inl (by simp)) _, heap_set_ne (heap_set_ne (heap_set_ne h1 (by simp only; omega) _) (by simp only; omega) _) (by simp only; omega) _, by rw [if_pos (by simp [upd])]; exact st3_heap' h2 _ _ _⟩, fun _ _ _ h => h⟩
  intro _ a w3 hWW hF
  obtain ⟨f3, hf3, rfl⟩ := hF.lit
  obtain ⟨k3, r0, r1⟩ : Keep [b0, b1] W9 w3 ∧ w3.heap[b0]? = some (.cells #[.slice (some ⟨b2, 0, none⟩) 1 1, .slice (some ⟨b4, 0, none⟩) 1 1, .int .i64 3] 26 (0, 0)) ∧ w3.heap[b1]? = some (.cells #[.int .i64 24, .slice (some ⟨b6, 0, none⟩) 2 2, .slice (some ⟨b7, 0, none⟩) 1 1] 31 (0, 0)) := by simpa [ExW] using hWW
  clear hf3 hF hWW
  simp only [List.filterMap, List.foldl, List.setIfInBounds_toArray, List.set_cons_succ, List.set_cons_zero]
  have HK := Lib.hid (And.intro k3 (And.intro r0 r1))
  clear k3 r0 r1
  go_wp2_with fail
  refine bodyPost_ret (ex_results rfl HK.out.2.1 HK.out.2.2 _ rfl rfl ⟨_, _, _, rfl⟩ ⟨_, _, _, rfl⟩ ⟨_, rfl⟩ ⟨_, rfl⟩ ⟨_, _, _, rfl⟩ ⟨_, _, _, rfl⟩) rfl ?_
  obtain ⟨h2, h3, h4, h6, h7, bb⟩ := H.out
  have K : ∀ {x : Nat} {o : Obj}, W9.heap[x]? = some o → x ≠ b0 → x ≠ b1 → w3.heap[x]? = some o := fun hx n0 n1 => (HK.out.1.block _ (heap_lt hx) (by simp; exact ⟨n0, n1⟩)).trans hx
  have g2 := K h2 (by omega) (by omega)
  have g3 := K h3 (by omega) (by omega)
  have g4 := K h4 (by omega) (by omega)
  have g6 := K h6 (by omega) (by omega)
  have g7 := K h7 (by omega) (by omega)
  have hpath : PathB w3.heap.size w3 (some ⟨b3, 0, none⟩) 1 [0] := ⟨⟨rfl, fun _ => ⟨b3, 0, rfl, heap_lt g3, fun j u hu => (cell_of_heap g3 _).trans (by simpa [ints] using hu)⟩⟩, by simp, by decide, by simp⟩
  refine ⟨b2, b3, b4, b6, b7, rfl, ⟨⟨rfl, fun _ => ⟨b2, 0, rfl, heap_lt g2, fun j u hu => (cell_of_heap g2 _).trans (by simpa [exPrt, chcs, chc] using hu)⟩⟩, ?_, ⟨by decide, by decide, by simp⟩, ⟨by decide, by decide, by simp⟩⟩, ⟨⟨rfl, fun _ => ⟨b6, 0, rfl, heap_lt g6, fun j u hu => (cell_of_heap g6 _).trans (by simpa [exPln, cacs, cac] using hu)⟩⟩, ⟨rfl, fun _ => ⟨b7, 0, rfl, heap_lt g7, fun j u hu => (cell_of_heap g7 _).trans (by simpa [exPln, swcs, swc] using hu)⟩⟩, ⟨by decide, by decide, by simp⟩, ⟨by decide, by decide, by simp⟩⟩, g4, hpath, ⟨by omega, by omega, by omega⟩, bb.trans (HK.out.1.below bb.size (by simp; omega))⟩
  intro k hk
  obtain rfl : k = 0 := by simp [exPrt] at hk; omega
  exact ⟨b4, 0, some ⟨b3, 0, none⟩, 1, rfl, heap_lt g4, (cell_of_heap g4 0).trans rfl, (cell_of_heap g4 1).trans rfl, ⟨rfl, fun _ => ⟨b3, 0, rfl, heap_lt g3, fun j u hu => (cell_of_heap g3 _).trans (by simpa [exPrt, ints] using hu)⟩⟩, by simp [exPrt], by decide, by simp⟩
end Go.Proofs.Ythmldeningpjbaa
/- the chapter's example: what each function answers -/
namespace Go.Proofs.Ythmldeningpjbaa
open Go Go.RowKit Sp Pt
set_option linter.unusedVariables false
set_option linter.unusedSimpArgs false
def exStt : Stt := ⟨[30], [false]⟩
def exPln2 : Pln := ⟨24, [⟨2, 0, false, 800, 60, 1⟩, ⟨20, 0, true, 800, 60, 1⟩], []⟩
def exPrt2 : Prt := ⟨[⟨10, 1, 25⟩], [⟨900, [0]⟩, ⟨700, [0]⟩], 3⟩
def exVs : List Vst := [⟨0, 10, 8, 600⟩, ⟨1, 4, 5, 800⟩, ⟨2, 20, 3, 650⟩]
set_option maxRecDepth 100000
theorem ex_runE : runE exPrt exStt exPln = 0 := by decide +kernel
theorem ex_runI : runI exPrt exStt exPln = 2 := by decide +kernel
theorem ex_runV : (runV exPrt exStt exPln).brash = [24] ∧ (runV exPrt exStt exPln).busy = [false] := by decide +kernel
theorem ex_foldE : foldE exPrt exPln 0 = 0 := by decide +kernel
theorem ex_foldV : foldVal exPrt exPln 0 = ⟨-6, 15, 58⟩ := by decide +kernel
theorem ex_staysE : staysE exPrt exPln = 0 := by decide +kernel
theorem ex_staysV : staysV exPrt exPln = [58] := by decide +kernel
theorem ex_wornE : wornE exPrt exPln2 = 0 := by decide +kernel
theorem ex_wornV : wornV exPrt exPln2 = 1 ∧ wornA exPrt exPln2 = 0 := by decide +kernel
theorem ex_bestE : bestE exPrt2 exVs = 0 := by decide +kernel
theorem ex_bestN : bestN exPrt2 exVs = 4 := by decide +kernel
theorem ex_bestV : bestV exPrt2 exVs = [⟨1, 0⟩, ⟨0, 1⟩, ⟨0, 6⟩] := by decide +kernel

abbrev exPV (b2 b4 : Nat) : Value := .agg #[.slice (some ⟨b2, 0, none⟩) 1 1, .slice (some ⟨b4, 0, none⟩) 1 1, .int .i64 3]
abbrev exLV (b6 b7 : Nat) : Value := .agg #[.int .i64 24, .slice (some ⟨b6, 0, none⟩) 2 2, .slice (some ⟨b7, 0, none⟩) 1 1]
/-- the example lies below D -/
structure ExM (D b2 b4 b6 b7 : Nat) (w : World) : Prop where
  PB : PrtB D w (some ⟨b2, 0, none⟩) 1 (some ⟨b4, 0, none⟩) 1 exPrt
  LB : PlnB D w (some ⟨b6, 0, none⟩) 2 (some ⟨b7, 0, none⟩) 1 exPln
  hD : D ≤ w.heap.size
theorem ExM.keep {D b2 b4 b6 b7 : Nat} {w w' : World} (h : ExM D b2 b4 b6 b7 w) {S : List Nat} (hk : Keep S w w') (hS : ∀ x ∈ S, D ≤ x) : ExM D b2 b4 b6 b7 w' :=
  ⟨h.PB.below (hk.below h.hD hS), h.LB.below (hk.below h.hD hS), Nat.le_trans h.hD hk.size⟩
theorem exa_ex (w : World) : Calls Try.prog 69 #[] w fun e w' => ∃ b2 b3 b4 b6 b7, e = .returned (.tuple #[exPV b2 b4, exLV b6 b7]) ∧ ExM w'.heap.size b2 b4 b6 b7 w' ∧ w'.heap[b4]? = some (.cells #[.int .i64 900, .slice (some ⟨b3, 0, none⟩) 1 1] 53 (0, 0)) ∧ PathB w'.heap.size w' (some ⟨b3, 0, none⟩) 1 [0] ∧ (b2 < b3 ∧ b3 < b4 ∧ w.heap.size ≤ b2) ∧ Below w.heap.size w w' := by
  refine (ExampleP_any w).mono ?_
  rintro e w' ⟨b2, b3, b4, b6, b7, rfl, PB, LB, hb, hp, ho, bw⟩
  exact ⟨b2, b3, b4, b6, b7, rfl, ⟨PB, LB, Nat.le_refl _⟩, hb, hp, ho, bw⟩
section
variable {D b2 b4 b6 b7 : Nat} {w : World} (h : ExM D b2 b4 b6 b7 w)
include h
theorem run_ex (g u : Nat) (hg : w.heap[g]? = some (.cells #[.int .i64 30] 3 (0, 0))) (hu : w.heap[u]? = some (.cells #[.bool false] 4 (0, 0))) :
    Calls Try.prog 19 #[exPV b2 b4, .agg #[.slice (some ⟨g, 0, none⟩) 1 1, .slice (some ⟨u, 0, none⟩) 1 1], exLV b6 b7] w fun e w' => ∃ A c B d, e = .returned (.tuple #[.agg #[.slice A 1 c, .slice B 1 d], .int .i64 2, .int .i64 0]) ∧ Rd w' 1 A 1 (ints [24]) ∧ Below w.heap.size w w' ∧ FreshA w A := by
  refine (Run_any w.heap.size _ _ _ _ exPrt _ _ _ _ exPln (some ⟨g, 0, none⟩) 1 (some ⟨u, 0, none⟩) 1 exStt w (h.PB.mono h.hD) (h.LB.mono h.hD) ⟨⟨rfl, fun _ => ⟨g, 0, rfl, heap_lt hg, fun j u hu => (cell_of_heap hg _).trans (by simpa [exStt, ints] using hu)⟩⟩, ⟨rfl, fun _ => ⟨u, 0, rfl, heap_lt hu, fun j v hv => (cell_of_heap hu _).trans (by simpa [exStt, bools] using hv)⟩⟩, ⟨by decide, by decide, by simp⟩, ⟨by decide, by decide, by simp⟩⟩ (Nat.le_refl _)).mono ?_
  rintro e w' ⟨A, c, B, d, rfl, SB, bw, fA, _⟩
  rw [ex_runE, ex_runI]
  have h1 := SB.br
  obtain ⟨e1, e2⟩ := ex_runV
  refine ⟨A, c, B, d, ?_, ?_, bw, fA⟩
  · simp only [sttV, e1, e2]; rfl
  · have := h1.rd (Nat.le_refl _)
    rw [e1] at this
    exact this
theorem fold_ex : Calls Try.prog 29 #[exPV b2 b4, exLV b6 b7, .int .i64 0] w fun e w' => e = .returned (.tuple #[.agg #[.int .i64 (-6), .int .i64 15, .int .i64 58], .int .i64 0]) ∧ Below w.heap.size w w' := by
  refine (Fold_any D _ _ _ _ exPrt _ _ _ _ exPln 0 w h.PB h.LB h.hD).mono ?_
  rintro e w' ⟨rfl, bw⟩
  rw [ex_foldE, ex_foldV]
  exact ⟨rfl, bw⟩
theorem stays_ex : Calls Try.prog 14 #[exPV b2 b4, exLV b6 b7] w fun e w' => ∃ A c, e = .returned (.tuple #[.slice A 1 c, .int .i64 0]) ∧ Rd w' 1 A 1 (ints [58]) ∧ Below w.heap.size w w' ∧ FreshA w A := by
  refine (Stays_any D _ _ _ _ exPrt _ _ _ _ exPln w h.PB h.LB h.hD).mono ?_
  rintro e w' ⟨A, c, q, rfl, o1, o2, bw⟩
  rw [ex_staysV] at o1
  rw [ex_staysE, ex_staysV]
  refine ⟨A, c, rfl, o1.rd, bw, fun b o h => ?_⟩
  obtain ⟨g, off, e1, e2, _⟩ := o1.some_ (by decide)
  rw [h] at e1
  injection e1 with e1
  injection e1 with e1 _ _
  rw [e1]
  exact o2 g (by rw [e2]; simp)
theorem worn_ex : Calls Try.prog 17 #[exPV b2 b4, .agg #[.int .i64 24, .slice (some ⟨b6, 0, none⟩) 2 2, .slice none 0 0]] w fun e w' => e = .returned (.tuple #[.int .i64 1, .int .i64 0, .int .i64 0]) ∧ Below w.heap.size w w' := by
  refine (Worn_any D _ _ _ _ exPrt (some ⟨b6, 0, none⟩) 2 none 0 exPln2 w h.PB ⟨h.LB.calls, ⟨rfl, fun h => absurd h (by decide)⟩, h.LB.c1, ⟨by decide, by decide, fun _ => rfl⟩⟩ h.hD).mono ?_
  rintro e w' ⟨rfl, bw⟩
  rw [ex_wornE, ex_wornV.1, ex_wornV.2]
  exact ⟨rfl, bw⟩
end
theorem best_ex {D b2 b5 c5 v : Nat} {w : World} (PB : PrtB D w (some ⟨b2, 0, none⟩) 1 (some ⟨b5, 0, none⟩) c5 exPrt2) (hD : D ≤ w.heap.size) (hv : w.heap[v]? = some (.cells #[.int .i64 0, .int .i64 10, .int .i64 8, .int .i64 600, .int .i64 1, .int .i64 4, .int .i64 5, .int .i64 800, .int .i64 2, .int .i64 20, .int .i64 3, .int .i64 650] 102 (0, 0))) (hvD : v < D) :
    Calls Try.prog 46 #[.agg #[.slice (some ⟨b2, 0, none⟩) 1 1, .slice (some ⟨b5, 0, none⟩) 2 c5, .int .i64 3], .slice (some ⟨v, 0, none⟩) 3 3] w fun e w' => ∃ A c, e = .returned (.tuple #[.slice A 3 c, .int .i64 4, .int .i64 0]) ∧ Rd w' 2 A 3 (plcs [⟨1, 0⟩, ⟨0, 1⟩, ⟨0, 6⟩]) ∧ Below w.heap.size w w' := by
  refine (Best_any D _ _ _ _ exPrt2 (some ⟨v, 0, none⟩) 3 exVs w PB ⟨rfl, fun _ => ⟨v, 0, rfl, hvD, fun j u hu => (cell_of_heap hv _).trans (by simpa [exVs, vscs, vsc] using hu)⟩⟩ hD).mono ?_
  rintro e w' ⟨A, c, rfl, o1, o2, bw⟩
  rw [ex_bestV] at o1
  rw [ex_bestE, ex_bestN, ex_bestV]
  exact ⟨A, c, rfl, o1, bw⟩
end Go.Proofs.Ythmldeningpjbaa
