import Derived.Test.YtalcinepeofmcaaPSp16
import Derived.Test.YtalcinepeofmcaaPSp7
import Derived.Test.YtalcinepeofmcaaPSp9
import Derived.Test.YtalcinepeofmcaaPSp17
import Derived.Test.YtalcinepeofmcaaPSp14
import Derived.Test.YtalcinepeofmcaaPSp0
set_option linter.unusedVariables false
set_option linter.unusedSimpArgs false
set_option maxRecDepth 100000
set_option maxHeartbeats 40000000
namespace Go.Proofs.Ytalcinepeofmcaa
open Go Go.RowKit Sp Pt
def exPrt : Prt := ⟨[⟨10, 1, 25⟩], [⟨900, [0]⟩], 3⟩
def exPln : Pln := ⟨24, [⟨2, 0, false, 800, 60, 1⟩, ⟨20, 0, true, 800, 60, 1⟩], [⟨19, 0, 2⟩]⟩
def ExV (W0 : World) (b0 b1 b2 b4 b5 b6 b7 b8 : Nat) : Nat → Value → Prop
  | 0, v => v = .agg #[.slice (some ⟨b2, 0, none⟩) 1 1, .slice (some ⟨b4, 0, none⟩) 1 1, .int .i64 3]
  | 1, v => v = .agg #[.int .i64 24, .slice (some ⟨b6, 0, none⟩) 2 2, .slice (some ⟨b7, 0, none⟩) 1 1]
  | _, _ => True
def ExW (W0 : World) (b0 b1 b2 b4 b5 b6 b7 b8 : Nat) (l : Nat → Bool) (w : World) : Prop := Keep [b0, b1] W0 w ∧ w.heap[b0]? = some (.cells (if l 2 then #[.slice (some ⟨b2, 0, none⟩) 1 1, .slice (some ⟨b4, 0, none⟩) 1 1, .int .i64 3] else #[.slice none 0 0, .slice none 0 0, .int .i64 0]) 44 (0, 0)) ∧ w.heap[b1]? = some (.cells (if l 3 then #[.int .i64 24, .slice (some ⟨b6, 0, none⟩) 2 2, .slice (some ⟨b7, 0, none⟩) 1 1] else #[.int .i64 0, .slice none 0 0, .slice none 0 0]) 49 (0, 0))
theorem ex_results {F : Func} (hF : F.results = #[.cell 0 44, .cell 1 49]) {W : World} {b0 b1 : Nat} {u0 u1 u2 v0 v1 v2 : Value} (h : W.heap[b0]? = some (.cells #[u0, u1, u2] 44 (0, 0))) (h' : W.heap[b1]? = some (.cells #[v0, v1, v2] 49 (0, 0))) (tmps : Array Value) (hr : tmps.getD 0 undef = .pointer (some ⟨b0, 0, none⟩)) (hs : tmps.getD 1 undef = .pointer (some ⟨b1, 0, none⟩))
    (n0 : ∃ A n c, u0 = .slice A n c) (n1 : ∃ A n c, u1 = .slice A n c) (n2 : ∃ x, u2 = .int .i64 x) (m0 : ∃ x, v0 = .int .i64 x) (m1 : ∃ A n c, v1 = .slice A n c) (m2 : ∃ A n c, v2 = .slice A n c) :
    (results F tmps).run Try.prog W = .ok (.tuple #[.agg #[u0, u1, u2], .agg #[v0, v1, v2]]) W := by
  have g0 : tmps[0]?.getD undef = .pointer (some ⟨b0, 0, none⟩) := by simpa using hr
  have g1 : tmps[1]?.getD undef = .pointer (some ⟨b1, 0, none⟩) := by simpa using hs
  obtain ⟨_, _, _, rfl⟩ := n0;obtain ⟨_, _, _, rfl⟩ := n1;obtain ⟨_, rfl⟩ := n2;obtain ⟨_, rfl⟩ := m0;obtain ⟨_, _, _, rfl⟩ := m1;obtain ⟨_, _, _, rfl⟩ := m2;have c0 := (cOH h 0).trans rfl;have c1 := (cOH h 1).trans rfl;have c2 := (cOH h 2).trans rfl;have d0 := (cOH h' 0).trans rfl;have d1 := (cOH h' 1).trans rfl;have d2 := (cOH h' 2).trans rfl;simp [results, hF, g0, g1, asAddr, go_sem, c0, c1, c2, d0, d1, d2]
def ExPost (w : World) (e : Ending) (w' : World) : Prop :=
  ∃ b2 b3 b4 b6 b7, e = .returned (.tuple #[.agg (prtV (some ⟨b2, 0, none⟩) 1 (some ⟨b4, 0, none⟩) 1 exPrt), .agg (plnV (some ⟨b6, 0, none⟩) 2 (some ⟨b7, 0, none⟩) 1 exPln)]) ∧
    PrtB w'.heap.size w' (some ⟨b2, 0, none⟩) 1 (some ⟨b4, 0, none⟩) 1 exPrt ∧ PlnB w'.heap.size w' (some ⟨b6, 0, none⟩) 2 (some ⟨b7, 0, none⟩) 1 exPln ∧ w'.heap[b4]? = some (.cells #[.int .i64 900, .slice (some ⟨b3, 0, none⟩) 1 1] 63 (0, 0)) ∧ PathB w'.heap.size w' (some ⟨b3, 0, none⟩) 1 [0] ∧ (b2 < b3 ∧ b3 < b4 ∧ w.heap.size ≤ b2) ∧ Below w.heap.size w w'
theorem ExampleP_any (w : World) : Calls Try.prog 16 #[] w (ExPost w) := by
  go_enter Try.func16, Try.ntmps16
  go_upto_region 3 with fail
  obtain ⟨b0, e0⟩ : ∃ b, b = w.heap.size := ⟨_, rfl⟩;obtain ⟨b1, e1⟩ : ∃ b, b = w.heap.size + 1 := ⟨_, rfl⟩;obtain ⟨b2, e2⟩ : ∃ b, b = w.heap.size + 1 + 1 := ⟨_, rfl⟩;obtain ⟨b3, e3⟩ : ∃ b, b = w.heap.size + 1 + 1 + 1 := ⟨_, rfl⟩;obtain ⟨b4, e4⟩ : ∃ b, b = w.heap.size + 1 + 1 + 1 + 1 := ⟨_, rfl⟩;obtain ⟨b5, e5⟩ : ∃ b, b = w.heap.size + 1 + 1 + 1 + 1 + 1 := ⟨_, rfl⟩;obtain ⟨b6, e6⟩ : ∃ b, b = w.heap.size + 1 + 1 + 1 + 1 + 1 + 1 := ⟨_, rfl⟩;obtain ⟨b7, e7⟩ : ∃ b, b = w.heap.size + 1 + 1 + 1 + 1 + 1 + 1 + 1 := ⟨_, rfl⟩;obtain ⟨b8, e8⟩ : ∃ b, b = w.heap.size + 1 + 1 + 1 + 1 + 1 + 1 + 1 + 1 := ⟨_, rfl⟩;rw [← e8];rw [← e7];rw [← e6];rw [← e5];rw [← e4];rw [← e3];rw [← e2];rw [← e1];rw [← e0];obtain ⟨W1, x1⟩ : ∃ W, W = w.alloc (.cells #[.slice none 0 0, .slice none 0 0, .int .i64 0] 44) := ⟨_, rfl⟩;rw [← x1];obtain ⟨W2, x2⟩ : ∃ W, W = W1.alloc (.cells #[.int .i64 0, .slice none 0 0, .slice none 0 0] 49) := ⟨_, rfl⟩;rw [← x2];obtain ⟨W3, x3⟩ : ∃ W, W = W2.alloc (.cells #[.int .i64 10, .int .i64 1, .int .i64 25] 67) := ⟨_, rfl⟩;rw [← x3];obtain ⟨W4, x4⟩ : ∃ W, W = W3.alloc (.cells #[.int .i64 0] 3) := ⟨_, rfl⟩;rw [← x4];obtain ⟨W5, x5⟩ : ∃ W, W = W4.alloc (.cells #[.int .i64 900, .slice (some ⟨b3, 0, none⟩) 1 1] 63) := ⟨_, rfl⟩;rw [← x5];obtain ⟨W6, x6⟩ : ∃ W, W = W5.alloc (.cells #[.slice (some ⟨b2, 0, none⟩) 1 1, .slice (some ⟨b4, 0, none⟩) 1 1, .int .i64 3] 44) := ⟨_, rfl⟩;rw [← x6];obtain ⟨W7, x7⟩ : ∃ W, W = W6.alloc (.cells #[.int .i64 2, .int .i64 0, .bool false, .int .i64 800, .int .i64 60, .int .i64 1, .int .i64 20, .int .i64 0, .bool true, .int .i64 800, .int .i64 60, .int .i64 1] 52) := ⟨_, rfl⟩;rw [← x7];obtain ⟨W8, x8⟩ : ∃ W, W = W7.alloc (.cells #[.int .i64 19, .int .i64 0, .int .i64 2] 65) := ⟨_, rfl⟩;rw [← x8];obtain ⟨W9, x9⟩ : ∃ W, W = W8.alloc (.cells #[.int .i64 24, .slice (some ⟨b6, 0, none⟩) 2 2, .slice (some ⟨b7, 0, none⟩) 1 1] 49) := ⟨_, rfl⟩;rw [← x9];have s1 : W1.heap.size = w.heap.size + 1 := by rw [x1, World.size_alloc]
  have h0 : W1.heap[b0]? = some (.cells #[.slice none 0 0, .slice none 0 0, .int .i64 0] 44 (0, 0)) := by rw [x1, show b0 = w.heap.size from by omega]; exact heap_alloc_new _ _
  replace h0 := hA_ h0 (.cells #[.int .i64 0, .slice none 0 0, .slice none 0 0] 49)
  rw [← x2] at h0
  replace h0 := hA_ h0 (.cells #[.int .i64 10, .int .i64 1, .int .i64 25] 67)
  rw [← x3] at h0
  replace h0 := hA_ h0 (.cells #[.int .i64 0] 3)
  rw [← x4] at h0
  replace h0 := hA_ h0 (.cells #[.int .i64 900, .slice (some ⟨b3, 0, none⟩) 1 1] 63)
  rw [← x5] at h0
  replace h0 := hA_ h0 (.cells #[.slice (some ⟨b2, 0, none⟩) 1 1, .slice (some ⟨b4, 0, none⟩) 1 1, .int .i64 3] 44)
  rw [← x6] at h0
  replace h0 := hA_ h0 (.cells #[.int .i64 2, .int .i64 0, .bool false, .int .i64 800, .int .i64 60, .int .i64 1, .int .i64 20, .int .i64 0, .bool true, .int .i64 800, .int .i64 60, .int .i64 1] 52)
  rw [← x7] at h0
  replace h0 := hA_ h0 (.cells #[.int .i64 19, .int .i64 0, .int .i64 2] 65)
  rw [← x8] at h0
  replace h0 := hA_ h0 (.cells #[.int .i64 24, .slice (some ⟨b6, 0, none⟩) 2 2, .slice (some ⟨b7, 0, none⟩) 1 1] 49)
  rw [← x9] at h0;have s2 : W2.heap.size = W1.heap.size + 1 := by rw [x2, World.size_alloc]
  have h1 : W2.heap[b1]? = some (.cells #[.int .i64 0, .slice none 0 0, .slice none 0 0] 49 (0, 0)) := by rw [x2, show b1 = W1.heap.size from by omega]; exact heap_alloc_new _ _
  replace h1 := hA_ h1 (.cells #[.int .i64 10, .int .i64 1, .int .i64 25] 67)
  rw [← x3] at h1
  replace h1 := hA_ h1 (.cells #[.int .i64 0] 3)
  rw [← x4] at h1
  replace h1 := hA_ h1 (.cells #[.int .i64 900, .slice (some ⟨b3, 0, none⟩) 1 1] 63)
  rw [← x5] at h1
  replace h1 := hA_ h1 (.cells #[.slice (some ⟨b2, 0, none⟩) 1 1, .slice (some ⟨b4, 0, none⟩) 1 1, .int .i64 3] 44)
  rw [← x6] at h1
  replace h1 := hA_ h1 (.cells #[.int .i64 2, .int .i64 0, .bool false, .int .i64 800, .int .i64 60, .int .i64 1, .int .i64 20, .int .i64 0, .bool true, .int .i64 800, .int .i64 60, .int .i64 1] 52)
  rw [← x7] at h1
  replace h1 := hA_ h1 (.cells #[.int .i64 19, .int .i64 0, .int .i64 2] 65)
  rw [← x8] at h1
  replace h1 := hA_ h1 (.cells #[.int .i64 24, .slice (some ⟨b6, 0, none⟩) 2 2, .slice (some ⟨b7, 0, none⟩) 1 1] 49)
  rw [← x9] at h1;have s3 : W3.heap.size = W2.heap.size + 1 := by rw [x3, World.size_alloc]
  have h2 : W3.heap[b2]? = some (.cells #[.int .i64 10, .int .i64 1, .int .i64 25] 67 (0, 0)) := by rw [x3, show b2 = W2.heap.size from by omega]; exact heap_alloc_new _ _
  replace h2 := hA_ h2 (.cells #[.int .i64 0] 3)
  rw [← x4] at h2
  replace h2 := hA_ h2 (.cells #[.int .i64 900, .slice (some ⟨b3, 0, none⟩) 1 1] 63)
  rw [← x5] at h2
  replace h2 := hA_ h2 (.cells #[.slice (some ⟨b2, 0, none⟩) 1 1, .slice (some ⟨b4, 0, none⟩) 1 1, .int .i64 3] 44)
  rw [← x6] at h2
  replace h2 := hA_ h2 (.cells #[.int .i64 2, .int .i64 0, .bool false, .int .i64 800, .int .i64 60, .int .i64 1, .int .i64 20, .int .i64 0, .bool true, .int .i64 800, .int .i64 60, .int .i64 1] 52)
  rw [← x7] at h2
  replace h2 := hA_ h2 (.cells #[.int .i64 19, .int .i64 0, .int .i64 2] 65)
  rw [← x8] at h2
  replace h2 := hA_ h2 (.cells #[.int .i64 24, .slice (some ⟨b6, 0, none⟩) 2 2, .slice (some ⟨b7, 0, none⟩) 1 1] 49)
  rw [← x9] at h2;have s4 : W4.heap.size = W3.heap.size + 1 := by rw [x4, World.size_alloc]
  have h3 : W4.heap[b3]? = some (.cells #[.int .i64 0] 3 (0, 0)) := by rw [x4, show b3 = W3.heap.size from by omega]; exact heap_alloc_new _ _
  replace h3 := hA_ h3 (.cells #[.int .i64 900, .slice (some ⟨b3, 0, none⟩) 1 1] 63)
  rw [← x5] at h3
  replace h3 := hA_ h3 (.cells #[.slice (some ⟨b2, 0, none⟩) 1 1, .slice (some ⟨b4, 0, none⟩) 1 1, .int .i64 3] 44)
  rw [← x6] at h3
  replace h3 := hA_ h3 (.cells #[.int .i64 2, .int .i64 0, .bool false, .int .i64 800, .int .i64 60, .int .i64 1, .int .i64 20, .int .i64 0, .bool true, .int .i64 800, .int .i64 60, .int .i64 1] 52)
  rw [← x7] at h3
  replace h3 := hA_ h3 (.cells #[.int .i64 19, .int .i64 0, .int .i64 2] 65)
  rw [← x8] at h3
  replace h3 := hA_ h3 (.cells #[.int .i64 24, .slice (some ⟨b6, 0, none⟩) 2 2, .slice (some ⟨b7, 0, none⟩) 1 1] 49)
  rw [← x9] at h3;have s5 : W5.heap.size = W4.heap.size + 1 := by rw [x5, World.size_alloc]
  have h4 : W5.heap[b4]? = some (.cells #[.int .i64 900, .slice (some ⟨b3, 0, none⟩) 1 1] 63 (0, 0)) := by rw [x5, show b4 = W4.heap.size from by omega]; exact heap_alloc_new _ _
  replace h4 := hA_ h4 (.cells #[.slice (some ⟨b2, 0, none⟩) 1 1, .slice (some ⟨b4, 0, none⟩) 1 1, .int .i64 3] 44)
  rw [← x6] at h4
  replace h4 := hA_ h4 (.cells #[.int .i64 2, .int .i64 0, .bool false, .int .i64 800, .int .i64 60, .int .i64 1, .int .i64 20, .int .i64 0, .bool true, .int .i64 800, .int .i64 60, .int .i64 1] 52)
  rw [← x7] at h4
  replace h4 := hA_ h4 (.cells #[.int .i64 19, .int .i64 0, .int .i64 2] 65)
  rw [← x8] at h4
  replace h4 := hA_ h4 (.cells #[.int .i64 24, .slice (some ⟨b6, 0, none⟩) 2 2, .slice (some ⟨b7, 0, none⟩) 1 1] 49)
  rw [← x9] at h4;have s6 : W6.heap.size = W5.heap.size + 1 := by rw [x6, World.size_alloc]
  have h5 : W6.heap[b5]? = some (.cells #[.slice (some ⟨b2, 0, none⟩) 1 1, .slice (some ⟨b4, 0, none⟩) 1 1, .int .i64 3] 44 (0, 0)) := by rw [x6, show b5 = W5.heap.size from by omega]; exact heap_alloc_new _ _
  replace h5 := hA_ h5 (.cells #[.int .i64 2, .int .i64 0, .bool false, .int .i64 800, .int .i64 60, .int .i64 1, .int .i64 20, .int .i64 0, .bool true, .int .i64 800, .int .i64 60, .int .i64 1] 52)
  rw [← x7] at h5
  replace h5 := hA_ h5 (.cells #[.int .i64 19, .int .i64 0, .int .i64 2] 65)
  rw [← x8] at h5
  replace h5 := hA_ h5 (.cells #[.int .i64 24, .slice (some ⟨b6, 0, none⟩) 2 2, .slice (some ⟨b7, 0, none⟩) 1 1] 49)
  rw [← x9] at h5;have s7 : W7.heap.size = W6.heap.size + 1 := by rw [x7, World.size_alloc]
  have h6 : W7.heap[b6]? = some (.cells #[.int .i64 2, .int .i64 0, .bool false, .int .i64 800, .int .i64 60, .int .i64 1, .int .i64 20, .int .i64 0, .bool true, .int .i64 800, .int .i64 60, .int .i64 1] 52 (0, 0)) := by rw [x7, show b6 = W6.heap.size from by omega]; exact heap_alloc_new _ _
  replace h6 := hA_ h6 (.cells #[.int .i64 19, .int .i64 0, .int .i64 2] 65)
  rw [← x8] at h6
  replace h6 := hA_ h6 (.cells #[.int .i64 24, .slice (some ⟨b6, 0, none⟩) 2 2, .slice (some ⟨b7, 0, none⟩) 1 1] 49)
  rw [← x9] at h6;have s8 : W8.heap.size = W7.heap.size + 1 := by rw [x8, World.size_alloc]
  have h7 : W8.heap[b7]? = some (.cells #[.int .i64 19, .int .i64 0, .int .i64 2] 65 (0, 0)) := by rw [x8, show b7 = W7.heap.size from by omega]; exact heap_alloc_new _ _
  replace h7 := hA_ h7 (.cells #[.int .i64 24, .slice (some ⟨b6, 0, none⟩) 2 2, .slice (some ⟨b7, 0, none⟩) 1 1] 49)
  rw [← x9] at h7;have s9 : W9.heap.size = W8.heap.size + 1 := by rw [x9, World.size_alloc]
  have h8 : W9.heap[b8]? = some (.cells #[.int .i64 24, .slice (some ⟨b6, 0, none⟩) 2 2, .slice (some ⟨b7, 0, none⟩) 1 1] 49 (0, 0)) := by rw [x9, show b8 = W8.heap.size from by omega]; exact heap_alloc_new _ _
  have bb : Below w.heap.size w W9 := by
    rw [x9, x8, x7, x6, x5, x4, x3, x2, x1];exact ((((((((((Below.refl _ _).alloc (Nat.le_refl _) _).alloc (by simp <;> omega) _).alloc (by simp <;> omega) _).alloc (by simp <;> omega) _).alloc (by simp <;> omega) _).alloc (by simp <;> omega) _).alloc (by simp <;> omega) _).alloc (by simp <;> omega) _).alloc (by simp <;> omega) _)
  have hord : b0 < b1 ∧ b1 < b2 ∧ b2 < b3 ∧ b3 < b4 ∧ b4 < b5 ∧ b5 < b6 ∧ b6 < b7 ∧ b7 < b8 ∧ w.heap.size = b0 := by omega
  have qp0 : W9.cell? ⟨b5, 0, none⟩ = some (.slice (some ⟨b2, 0, none⟩) 1 1) := (cOH h5 0).trans rfl;have qp1 : W9.cell? ⟨b5, 1, none⟩ = some (.slice (some ⟨b4, 0, none⟩) 1 1) := (cOH h5 1).trans rfl;have qp2 : W9.cell? ⟨b5, 2, none⟩ = some (.int .i64 3) := (cOH h5 2).trans rfl;have ql0 : W9.cell? ⟨b8, 0, none⟩ = some (.int .i64 24) := (cOH h8 0).trans rfl;have ql1 : W9.cell? ⟨b8, 1, none⟩ = some (.slice (some ⟨b6, 0, none⟩) 2 2) := (cOH h8 1).trans rfl;have ql2 : W9.cell? ⟨b8, 2, none⟩ = some (.slice (some ⟨b7, 0, none⟩) 1 1) := (cOH h8 2).trans rfl;have z5 := hL_ h5;have z8 := hL_ h8;have H := Lib.hid (And.intro h2 (And.intro h3 (And.intro h4 (And.intro h6 (And.intro h7 bb)))));clear e0 e1 e2 e3 e4 e5 e6 e7 e8 x1 x2 x3 x4 x5 x6 x7 x8 x9 s1 s2 s3 s4 s5 s6 s7 s8 s9 h2 h3 h4 h5 h6 h7 h8 bb;refine wRS (σ := Unit) (by kernel_rfl) (by kernel_rfl) (fun _ jx vx _ => ExV W9 b0 b1 b2 b4 b5 b6 b7 b8 jx vx) (fun _ ly wx => ExW W9 b0 b1 b2 b4 b5 b6 b7 b8 ly wx) () ?_ ?_ ?_
  · exact ⟨(Keep.refl _ _).drew, h0, h1⟩
  · simp only [AllFrom, Nat.zero_add, Nat.reduceAdd];refine ⟨?_, ?_, ?_, ?_, trivial⟩
    · refine sP_ fun sg ly a wr hl hd hW hF => ?_;have et2 := hF.old 2 (by kernel_rfl);simp [Act.eval] at et2;have c0 := hW.1.cell qp0 (by simp; omega);have c1 := hW.1.cell qp1 (by simp; omega);have c2 := hW.1.cell qp2 (by simp; omega);exact ⟨by simpa [ExW, upd] using hW, .agg #[.slice (some ⟨b2, 0, none⟩) 1 1, .slice (some ⟨b4, 0, none⟩) 1 1, .int .i64 3], by go_simp, rfl⟩
    · refine sP_ fun sg ly a wr hl hd hW hF => ?_;have et3 := hF.old 3 (by kernel_rfl);simp [Act.eval] at et3;have c0 := hW.1.cell ql0 (by simp; omega);have c1 := hW.1.cell ql1 (by simp; omega);have c2 := hW.1.cell ql2 (by simp; omega);exact ⟨by simpa [ExW, upd] using hW, .agg #[.int .i64 24, .slice (some ⟨b6, 0, none⟩) 2 2, .slice (some ⟨b7, 0, none⟩) 1 1], by go_simp, rfl⟩
    · refine sS_ rfl fun sg ly a wr hl hd hW hF => ?_;simp [Region.binds] at hd;have et0 := hF.old 0 (by kernel_rfl);simp [Act.eval] at et0;have et16 := hF.new 0 16 (by simp [hd]) rfl;simp [ExV, Act.eval] at et16;obtain ⟨h0, h1, h2⟩ := hW;rw [if_neg (by simp [hl])] at h1;have c0 := (cOH h1 0).trans rfl;have c1 := (cOH h1 1).trans rfl;have c2 := (cOH h1 2).trans rfl;have f0 := fOH h1 0;have f1 := fOH h1 1;have f2 := fOH h1 2;have z0 := hL_ h1;refine ⟨((wr.setCell ⟨b0, 0, none⟩ (.slice (some ⟨b2, 0, none⟩) 1 1)).setCell ⟨b0, 1, none⟩ (.slice (some ⟨b4, 0, none⟩) 1 1)).setCell ⟨b0, 2, none⟩ (.int .i64 3), (), .skip, by go_simp, .inl rfl, ⟨((h0.setCell (.inl (by simp)) _).setCell (.inl (by simp)) _).setCell (.inl (by simp)) _, by rw [if_pos (by simp [upd])]; exact st3_heap' h1 _ _ _, hSN (hSN (hSN h2 (by simp only; omega) _) (by simp only; omega) _) (by simp only; omega) _⟩, fun _ _ _ h => h⟩
    · refine sS_ rfl fun sg ly a wr hl hd hW hF => ?_;simp [Region.binds] at hd;have et1 := hF.old 1 (by kernel_rfl);simp [Act.eval] at et1;have et17 := hF.new 1 17 (by simp [hd]) rfl;simp [ExV, Act.eval] at et17;obtain ⟨h0, h1, h2⟩ := hW;rw [if_neg (by simp [hl])] at h2;have c0 := (cOH h2 0).trans rfl;have c1 := (cOH h2 1).trans rfl;have c2 := (cOH h2 2).trans rfl;have f0 := fOH h2 0;have f1 := fOH h2 1;have f2 := fOH h2 2;have z0 := hL_ h2;refine ⟨((wr.setCell ⟨b1, 0, none⟩ (.int .i64 24)).setCell ⟨b1, 1, none⟩ (.slice (some ⟨b6, 0, none⟩) 2 2)).setCell ⟨b1, 2, none⟩ (.slice (some ⟨b7, 0, none⟩) 1 1), (), .skip, by go_simp, .inl rfl, ⟨((h0.setCell (.inl (by simp)) _).setCell (.inl (by simp)) _).setCell (.inl (by simp)) _, hSN (hSN (hSN h1 (by simp only; omega) _) (by simp only; omega) _) (by simp only; omega) _, by rw [if_pos (by simp [upd])]; exact st3_heap' h2 _ _ _⟩, fun _ _ _ h => h⟩
  intro _ a w3 hWW hF;obtain ⟨f3, hf3, rfl⟩ := hF.lit;obtain ⟨k3, r0, r1⟩ : Keep [b0, b1] W9 w3 ∧ w3.heap[b0]? = some (.cells #[.slice (some ⟨b2, 0, none⟩) 1 1, .slice (some ⟨b4, 0, none⟩) 1 1, .int .i64 3] 44 (0, 0)) ∧ w3.heap[b1]? = some (.cells #[.int .i64 24, .slice (some ⟨b6, 0, none⟩) 2 2, .slice (some ⟨b7, 0, none⟩) 1 1] 49 (0, 0)) := by simpa [ExW] using hWW
  clear hf3 hF hWW;simp only [List.filterMap, List.foldl, List.setIfInBounds_toArray, List.set_cons_succ, List.set_cons_zero];have HK := Lib.hid (And.intro k3 (And.intro r0 r1));clear k3 r0 r1;go_wp2_with fail
  refine bodyPost_ret (ex_results rfl HK.out.2.1 HK.out.2.2 _ rfl rfl ⟨_, _, _, rfl⟩ ⟨_, _, _, rfl⟩ ⟨_, rfl⟩ ⟨_, rfl⟩ ⟨_, _, _, rfl⟩ ⟨_, _, _, rfl⟩) rfl ?_;obtain ⟨h2, h3, h4, h6, h7, bb⟩ := H.out;have K : ∀ {x : Nat} {o : Obj}, W9.heap[x]? = some o → x ≠ b0 → x ≠ b1 → w3.heap[x]? = some o := fun hx n0 n1 => (HK.out.1.block _ (hL_ hx) (by simp; exact ⟨n0, n1⟩)).trans hx;have g2 := K h2 (by omega) (by omega);have g3 := K h3 (by omega) (by omega);have g4 := K h4 (by omega) (by omega);have g6 := K h6 (by omega) (by omega);have g7 := K h7 (by omega) (by omega);have hpath : PathB w3.heap.size w3 (some ⟨b3, 0, none⟩) 1 [0] := ⟨⟨rfl, fun _ => ⟨b3, 0, rfl, hL_ g3, fun j u hu => (cOH g3 _).trans (by simpa [ints] using hu)⟩⟩, by simp, by decide, by simp⟩;refine ⟨b2, b3, b4, b6, b7, rfl, ⟨⟨rfl, fun _ => ⟨b2, 0, rfl, hL_ g2, fun j u hu => (cOH g2 _).trans (by simpa [exPrt, chcs, chc] using hu)⟩⟩, ?_, ⟨by decide, by decide, by simp⟩, ⟨by decide, by decide, by simp⟩⟩, ⟨⟨rfl, fun _ => ⟨b6, 0, rfl, hL_ g6, fun j u hu => (cOH g6 _).trans (by simpa [exPln, cacs, cac] using hu)⟩⟩, ⟨rfl, fun _ => ⟨b7, 0, rfl, hL_ g7, fun j u hu => (cOH g7 _).trans (by simpa [exPln, swcs, swc] using hu)⟩⟩, ⟨by decide, by decide, by simp⟩, ⟨by decide, by decide, by simp⟩⟩, g4, hpath, ⟨by omega, by omega, by omega⟩, bb.trans (HK.out.1.below bb.size (by simp; omega))⟩;intro k hk;obtain rfl : k = 0 := by simp [exPrt] at hk; omega
  exact ⟨b4, 0, some ⟨b3, 0, none⟩, 1, rfl, hL_ g4, (cOH g4 0).trans rfl, (cOH g4 1).trans rfl, ⟨rfl, fun _ => ⟨b3, 0, rfl, hL_ g3, fun j u hu => (cOH g3 _).trans (by simpa [exPrt, ints] using hu)⟩⟩, by simp [exPrt], by decide, by simp⟩
end Go.Proofs.Ytalcinepeofmcaa
namespace Go.Proofs.Ytalcinepeofmcaa
open Go Go.RowKit Sp Pt
def exStt : Stt := ⟨[30], [false]⟩
def exPln2 : Pln := ⟨24, [⟨2, 0, false, 800, 60, 1⟩, ⟨20, 0, true, 800, 60, 1⟩], []⟩
def exPrt2 : Prt := ⟨[⟨10, 1, 25⟩], [⟨900, [0]⟩, ⟨700, [0]⟩], 3⟩
def exVs : List Vst := [⟨0, 10, 8, 600⟩, ⟨1, 4, 5, 800⟩, ⟨2, 20, 3, 650⟩]
set_option maxRecDepth 100000
theorem ex_runE : runE exPrt exStt exPln = 0 := by decide +kernel
theorem ex_runI : runI exPrt exStt exPln = 2 := by decide +kernel
theorem ex_runV : (runV exPrt exStt exPln).brash = [24] ∧ (runV exPrt exStt exPln).busy = [false] := by decide +kernel
theorem ex_foldE : foldE exPrt exPln 0 = 0 := by decide +kernel
theorem ex_foldV : foldVal exPrt exPln 0 = ⟨-6, 15, 58⟩ := by decide +kernel
theorem ex_staysE : staysE exPrt exPln = 0 := by decide +kernel
theorem ex_staysV : staysV exPrt exPln = [58] := by decide +kernel
theorem ex_wornE : wornE exPrt exPln2 = 0 := by decide +kernel
theorem ex_wornV : wornV exPrt exPln2 = 1 ∧ wornA exPrt exPln2 = 0 := by decide +kernel
theorem ex_bestE : bestE exPrt2 exVs = 0 := by decide +kernel
theorem ex_bestN : bestN exPrt2 exVs = 4 := by decide +kernel
theorem ex_bestV : bestV exPrt2 exVs = [⟨1, 0⟩, ⟨0, 1⟩, ⟨0, 6⟩] := by decide +kernel
abbrev exPV (b2 b4 : Nat) : Value := .agg #[.slice (some ⟨b2, 0, none⟩) 1 1, .slice (some ⟨b4, 0, none⟩) 1 1, .int .i64 3]
abbrev exLV (b6 b7 : Nat) : Value := .agg #[.int .i64 24, .slice (some ⟨b6, 0, none⟩) 2 2, .slice (some ⟨b7, 0, none⟩) 1 1]
structure ExM (D b2 b4 b6 b7 : Nat) (w : World) : Prop where
  PB : PrtB D w (some ⟨b2, 0, none⟩) 1 (some ⟨b4, 0, none⟩) 1 exPrt
  LB : PlnB D w (some ⟨b6, 0, none⟩) 2 (some ⟨b7, 0, none⟩) 1 exPln
  hD : D ≤ w.heap.size
theorem ExM.keep {D b2 b4 b6 b7 : Nat} {w w' : World} (h : ExM D b2 b4 b6 b7 w) {S : List Nat} (hk : Keep S w w') (hS : ∀ x ∈ S, D ≤ x) : ExM D b2 b4 b6 b7 w' :=
  ⟨h.PB.below (hk.below h.hD hS), h.LB.below (hk.below h.hD hS), Nat.le_trans h.hD hk.size⟩
theorem exa_ex (w : World) : Calls Try.prog 16 #[] w fun e w' => ∃ b2 b3 b4 b6 b7, e = .returned (.tuple #[exPV b2 b4, exLV b6 b7]) ∧ ExM w'.heap.size b2 b4 b6 b7 w' ∧ w'.heap[b4]? = some (.cells #[.int .i64 900, .slice (some ⟨b3, 0, none⟩) 1 1] 63 (0, 0)) ∧ PathB w'.heap.size w' (some ⟨b3, 0, none⟩) 1 [0] ∧ (b2 < b3 ∧ b3 < b4 ∧ w.heap.size ≤ b2) ∧ Below w.heap.size w w' := by
  refine (ExampleP_any w).mono ?_;rintro e w' ⟨b2, b3, b4, b6, b7, rfl, PB, LB, hb, hp, ho, bw⟩;exact ⟨b2, b3, b4, b6, b7, rfl, ⟨PB, LB, Nat.le_refl _⟩, hb, hp, ho, bw⟩
section
variable {D b2 b4 b6 b7 : Nat} {w : World} (h : ExM D b2 b4 b6 b7 w)
include h
theorem run_ex (g u : Nat) (hg : w.heap[g]? = some (.cells #[.int .i64 30] 3 (0, 0))) (hu : w.heap[u]? = some (.cells #[.bool false] 4 (0, 0))) :
    Calls Try.prog 17 #[exPV b2 b4, .agg #[.slice (some ⟨g, 0, none⟩) 1 1, .slice (some ⟨u, 0, none⟩) 1 1], exLV b6 b7] w fun e w' => ∃ A c B d, e = .returned (.tuple #[.agg #[.slice A 1 c, .slice B 1 d], .int .i64 2, .int .i64 0]) ∧ Rd w' 1 A 1 (ints [24]) ∧ Below w.heap.size w w' ∧ FreshA w A := by
  refine (Run_any w.heap.size _ _ _ _ exPrt _ _ _ _ exPln (some ⟨g, 0, none⟩) 1 (some ⟨u, 0, none⟩) 1 exStt w (h.PB.mono h.hD) (h.LB.mono h.hD) ⟨⟨rfl, fun _ => ⟨g, 0, rfl, hL_ hg, fun j u hu => (cOH hg _).trans (by simpa [exStt, ints] using hu)⟩⟩, ⟨rfl, fun _ => ⟨u, 0, rfl, hL_ hu, fun j v hv => (cOH hu _).trans (by simpa [exStt, bools] using hv)⟩⟩, ⟨by decide, by decide, by simp⟩, ⟨by decide, by decide, by simp⟩⟩ (Nat.le_refl _)).mono ?_;rintro e w' ⟨A, c, B, d, rfl, SB, bw, fA, _⟩;rw [ex_runE, ex_runI];have h1 := SB.br;obtain ⟨e1, e2⟩ := ex_runV;refine ⟨A, c, B, d, ?_, ?_, bw, fA⟩
  · simp only [sttV, e1, e2]; rfl
  · have := h1.rd (Nat.le_refl _);rw [e1] at this;exact this
theorem fold_ex : Calls Try.prog 18 #[exPV b2 b4, exLV b6 b7, .int .i64 0] w fun e w' => e = .returned (.tuple #[.agg #[.int .i64 (-6), .int .i64 15, .int .i64 58], .int .i64 0]) ∧ Below w.heap.size w w' := by
  refine (Fold_any D _ _ _ _ exPrt _ _ _ _ exPln 0 w h.PB h.LB h.hD).mono ?_;rintro e w' ⟨rfl, bw⟩;rw [ex_foldE, ex_foldV];exact ⟨rfl, bw⟩
theorem stays_ex : Calls Try.prog 19 #[exPV b2 b4, exLV b6 b7] w fun e w' => ∃ A c, e = .returned (.tuple #[.slice A 1 c, .int .i64 0]) ∧ Rd w' 1 A 1 (ints [58]) ∧ Below w.heap.size w w' ∧ FreshA w A := by
  refine (Stays_any D _ _ _ _ exPrt _ _ _ _ exPln w h.PB h.LB h.hD).mono ?_;rintro e w' ⟨A, c, q, rfl, o1, o2, bw⟩;rw [ex_staysV] at o1;rw [ex_staysE, ex_staysV];refine ⟨A, c, rfl, o1.rd, bw, fun b o h => ?_⟩;obtain ⟨g, off, e1, e2, _⟩ := o1.some_ (by decide);rw [h] at e1;injection e1 with e1
  injection e1 with e1 _ _
  rw [e1];exact o2 g (by rw [e2]; simp)
theorem worn_ex : Calls Try.prog 20 #[exPV b2 b4, .agg #[.int .i64 24, .slice (some ⟨b6, 0, none⟩) 2 2, .slice none 0 0]] w fun e w' => e = .returned (.tuple #[.int .i64 1, .int .i64 0, .int .i64 0]) ∧ Below w.heap.size w w' := by
  refine (Worn_any D _ _ _ _ exPrt (some ⟨b6, 0, none⟩) 2 none 0 exPln2 w h.PB ⟨h.LB.calls, ⟨rfl, fun h => absurd h (by decide)⟩, h.LB.c1, ⟨by decide, by decide, fun _ => rfl⟩⟩ h.hD).mono ?_;rintro e w' ⟨rfl, bw⟩;rw [ex_wornE, ex_wornV.1, ex_wornV.2];exact ⟨rfl, bw⟩
end
theorem best_ex {D b2 b5 c5 v : Nat} {w : World} (PB : PrtB D w (some ⟨b2, 0, none⟩) 1 (some ⟨b5, 0, none⟩) c5 exPrt2) (hD : D ≤ w.heap.size) (hv : w.heap[v]? = some (.cells #[.int .i64 0, .int .i64 10, .int .i64 8, .int .i64 600, .int .i64 1, .int .i64 4, .int .i64 5, .int .i64 800, .int .i64 2, .int .i64 20, .int .i64 3, .int .i64 650] 90 (0, 0))) (hvD : v < D) :
    Calls Try.prog 21 #[.agg #[.slice (some ⟨b2, 0, none⟩) 1 1, .slice (some ⟨b5, 0, none⟩) 2 c5, .int .i64 3], .slice (some ⟨v, 0, none⟩) 3 3] w fun e w' => ∃ A c, e = .returned (.tuple #[.slice A 3 c, .int .i64 4, .int .i64 0]) ∧ Rd w' 2 A 3 (plcs [⟨1, 0⟩, ⟨0, 1⟩, ⟨0, 6⟩]) ∧ Below w.heap.size w w' := by
  refine (Best_any D _ _ _ _ exPrt2 (some ⟨v, 0, none⟩) 3 exVs w PB ⟨rfl, fun _ => ⟨v, 0, rfl, hvD, fun j u hu => (cOH hv _).trans (by simpa [exVs, vscs, vsc] using hu)⟩⟩ hD).mono ?_;rintro e w' ⟨A, c, rfl, o1, o2, bw⟩;rw [ex_bestV] at o1;rw [ex_bestE, ex_bestN, ex_bestV];exact ⟨A, c, rfl, o1, bw⟩
end Go.Proofs.Ytalcinepeofmcaa
namespace Go.Proofs.Ytalcinepeofmcaa
open Go Go.RowKit Sp Pt
structure AwS (D b2 b4 b6 b7 pb lb : Nat) (x y : Value) (w : World) : Prop where
  M : ExM D b2 b4 b6 b7 w
  hp : w.heap[pb]? = some (.cells #[.slice (some ⟨b2, 0, none⟩) 1 1, x, .int .i64 3] 44 (0, 0))
  hl : w.heap[lb]? = some (.cells #[.int .i64 24, .slice (some ⟨b6, 0, none⟩) 2 2, y] 49 (0, 0))
theorem AwS.keep0 {D b2 b4 b6 b7 pb lb : Nat} {x y : Value} {w w' : World} (h : AwS D b2 b4 b6 b7 pb lb x y w) (hk : Keep [] w w') : AwS D b2 b4 b6 b7 pb lb x y w' :=
  ⟨h.M.keep hk (by simp), (hk.block _ (hL_ h.hp) (by simp)).trans h.hp, (hk.block _ (hL_ h.hl) (by simp)).trans h.hl⟩
theorem AwS.cells {D b2 b4 b6 b7 pb lb : Nat} {x y : Value} {w : World} (h : AwS D b2 b4 b6 b7 pb lb x y w) :
    w.cell? ⟨pb, 0, none⟩ = some (.slice (some ⟨b2, 0, none⟩) 1 1) ∧ w.cell? ⟨pb, 1, none⟩ = some x ∧ w.cell? ⟨pb, 2, none⟩ = some (.int .i64 3) ∧ w.cell? ⟨lb, 0, none⟩ = some (.int .i64 24) ∧ w.cell? ⟨lb, 1, none⟩ = some (.slice (some ⟨b6, 0, none⟩) 2 2) ∧ w.cell? ⟨lb, 2, none⟩ = some y ∧ pb < w.heap.size ∧ lb < w.heap.size :=
  ⟨(cOH h.hp 0).trans rfl, (cOH h.hp 1).trans rfl, (cOH h.hp 2).trans rfl, (cOH h.hl 0).trans rfl, (cOH h.hl 1).trans rfl, (cOH h.hl 2).trans rfl, hL_ h.hp, hL_ h.hl⟩
theorem rd_litP (w : World) (size n : Nat) (cs : List Value) (t : TypeId) (h : cs.length = n * size) : Rd (w.alloc (.cells cs.toArray t)) size (some ⟨w.heap.size, 0, none⟩) n cs :=
  ⟨h, fun _ => ⟨_, 0, rfl, by simp, fun j u hu => by rw [Nat.zero_add, World.cell?_alloc_new]; simpa using hu⟩⟩
theorem awakeP_any (w : World) : Calls Try.prog 8 #[] w fun e w' => e = .returned (.bool true) ∧ Below w.heap.size w w' := by
  go_enter Try.func8, Try.ntmps8
  go_upto_region 2 with (go_at_call 16; refine (exa_ex w).mono ?_; rintro e w1 ⟨b2, b3, b4, b6, b7, rfl, M1, hb4, hpa, hord, bw⟩; have H1 := Lib.hid (And.intro M1 bw); have HP := Lib.hid (And.intro hb4 hpa); clear M1 bw hb4 hpa)
  obtain ⟨W2, hW2⟩ : ∃ W, W = (w1.alloc (.cells #[.slice (some ⟨b2, 0, none⟩) 1 1, .slice (some ⟨b4, 0, none⟩) 1 1, .int .i64 3] 44)).alloc (.cells #[.int .i64 24, .slice (some ⟨b6, 0, none⟩) 2 2, .slice (some ⟨b7, 0, none⟩) 1 1] 49) := ⟨_, rfl⟩;obtain ⟨D, hD⟩ : ∃ D, D = w1.heap.size := ⟨_, rfl⟩;obtain ⟨lb, hlb⟩ : ∃ b, b = w1.heap.size + 1 := ⟨_, rfl⟩;obtain ⟨pb, hpb⟩ : ∃ b, b = w1.heap.size := ⟨_, rfl⟩;have k2 : Keep [] w1 W2 := by rw [hW2]; exact ((Keep.refl _ _).alloc _).alloc _
  have S2 : AwS D b2 b4 b6 b7 pb lb (.slice (some ⟨b4, 0, none⟩) 1 1) (.slice (some ⟨b7, 0, none⟩) 1 1) W2 := by
    refine ⟨by rw [hD]; exact H1.out.1.keep k2 (by simp), by rw [hW2, hpb]; exact hA_ (heap_alloc_new _ _) _, ?_⟩;rw [hW2, hlb];have := heap_alloc_new (w1.alloc (.cells #[.slice (some ⟨b2, 0, none⟩) 1 1, .slice (some ⟨b4, 0, none⟩) 1 1, .int .i64 3] 44)) (.cells #[.int .i64 24, .slice (some ⟨b6, 0, none⟩) 2 2, .slice (some ⟨b7, 0, none⟩) 1 1] 49)
    rwa [World.size_alloc] at this
  have hb2 : Below w.heap.size w W2 := H1.out.2.trans (k2.below H1.out.2.size (by simp));rw [← hW2, ← hlb, ← hpb];have hpl : pb < lb ∧ D ≤ pb := by omega
  have hk2' := k2;have hD' := hD;clear hW2 hD k2;have kX : Keep [] W2 ((W2.alloc (.cells #[.int .i64 30] 3)).alloc (.cells #[.bool false] 4)) := ((Keep.refl _ _).alloc _).alloc _;have kr := run_ex (S2.keep0 kX).M W2.heap.size (W2.heap.size + 1) (hA_ (heap_alloc_new _ _) _) (by have := heap_alloc_new (W2.alloc (.cells #[.int .i64 30] 3)) (.cells #[.bool false] 4); rwa [World.size_alloc] at this);obtain ⟨c0, c1, c2, c3, c4, c5, z1, z2⟩ := S2.cells;have H2 := Lib.hid (And.intro S2 (And.intro hb2 kr));have HP2 := Lib.hid (And.intro ((hk2'.block _ (hL_ HP.out.1) (by simp)).trans HP.out.1) (show PathB D W2 (some ⟨b3, 0, none⟩) 1 [0] by rw [hD']; exact HP.out.2.below (hk2'.below (Nat.le_refl _) (by simp))));have hbw : w.heap.size ≤ D ∧ w.heap.size ≤ W2.heap.size ∧ w.heap.size ≤ pb := ⟨by have := H1.out.2.size; omega, hb2.size, by have := H1.out.2.size; omega⟩;have hb4D : b4 < D := by rw [hD']; exact hL_ HP.out.1
  clear S2 hb2 kr kX hlb hpb H1 HP hk2' hD';go_upto_region 3 with (go_at_call 17; refine H2.out.2.2.mono ?_; rintro e w3 ⟨A3, d3, B3, f3, rfl, o3, b3', fr3⟩; have H3 := Lib.hid (And.intro o3 b3'); have HF3 := Lib.hid fr3; clear o3 b3' fr3)
  obtain ⟨W3, hW3⟩ : ∃ W, W = w3.alloc (.cells #[.slice A3 1 d3, .slice B3 1 f3] 58) := ⟨_, rfl⟩;obtain ⟨sb, hsb⟩ : ∃ b, b = w3.heap.size := ⟨_, rfl⟩;have k3 : Keep [] W2 W3 := by rw [hW3]; exact (((((Keep.refl _ _).alloc _).alloc _).trans (Keep.of_below (S := []) H3.out.2) (by simp)).alloc _)
  have g3 : W3.heap[sb]? = some (.cells #[.slice A3 1 d3, .slice B3 1 f3] 58 (0, 0)) := by rw [hW3, hsb]; exact heap_alloc_new _ _
  have R3 : Rd W3 1 A3 1 (ints [24]) := by rw [hW3]; exact H3.out.1.below ((Below.refl _ _).alloc (Nat.le_refl _) _)
  have S3 := H2.out.1.keep0 k3;have kf := fold_ex S3.M;have hge : w.heap.size ≤ W3.heap.size := by have := k3.size; omega
  rw [← hW3, ← hsb];clear hW3 hsb c0 c1 c2 c3 c4 c5 z1 z2;obtain ⟨c0, c1, c2, c3, c4, c5, z1, z2⟩ := S3.cells;have H4 := Lib.hid (And.intro k3 (And.intro g3 (And.intro R3 (And.intro S3 kf))));clear k3 g3 R3 S3 kf;go_upto_region 4 with (go_at_call 18; refine H4.out.2.2.2.2.mono ?_; rintro e w4 ⟨rfl, b4'⟩; have HF := Lib.hid b4'; clear b4')
  obtain ⟨W4, hW4⟩ : ∃ W, W = w4.alloc (.cells #[.int .i64 (-6), .int .i64 15, .int .i64 58] 79) := ⟨_, rfl⟩;obtain ⟨mb, hmb⟩ : ∃ b, b = w4.heap.size := ⟨_, rfl⟩;have k4 : Keep [] W3 W4 := by rw [hW4]; exact (Keep.of_below (S := []) HF.out).alloc _
  have g4 : W4.heap[mb]? = some (.cells #[.int .i64 (-6), .int .i64 15, .int .i64 58] 79 (0, 0)) := by rw [hW4, hmb]; exact heap_alloc_new _ _
  have S4 := H4.out.2.2.2.1.keep0 k4;have ks := stays_ex S4.M;rw [← hW4, ← hmb];clear hW4 hmb c0 c1 c2 c3 c4 c5 z1 z2;obtain ⟨c0, c1, c2, c3, c4, c5, z1, z2⟩ := S4.cells;have H5 := Lib.hid (And.intro k4 (And.intro g4 (And.intro S4 ks)));clear k4 g4 S4 ks;go_upto_region 5 with (go_at_call 19; refine H5.out.2.2.2.mono ?_; rintro e w5 ⟨A5, d5, rfl, o5, b5, fr5⟩; have HS := Lib.hid (And.intro o5 b5); have HF5 := Lib.hid fr5; clear o5 b5 fr5)
  have k5 : Keep [] W4 w5 := Keep.of_below HS.out.2;have S5 := H5.out.2.2.1.keep0 k5;clear c0 c1 c2 c3 c4 c5 z1 z2;obtain ⟨c0, c1, c2, c3, c4, c5, z1, z2⟩ := S5.cells;have f5 := fOH S5.hl 2;have H6 := Lib.hid (And.intro k5 S5);clear k5 S5;go_upto_region 6 with fail
  obtain ⟨W6, hW6⟩ : ∃ W, W = w5.setCell ⟨lb, 2, none⟩ (.slice none 0 0) := ⟨_, rfl⟩;have k6 : Keep [lb] w5 W6 := by rw [hW6]; exact (Keep.refl _ _).setCell (.inl (by simp)) _
  have S6 : AwS D b2 b4 b6 b7 pb lb (.slice (some ⟨b4, 0, none⟩) 1 1) (.slice none 0 0) W6 := by
    have S5 := H6.out.2;rw [hW6] at k6 ⊢;exact ⟨S5.M.keep k6 (by simp; omega), hSN S5.hp (by simp only; omega) _, hS_ S5.hl 2 _⟩
  have kw := worn_ex S6.M;rw [← hW6];clear hW6 c0 c1 c2 c3 c4 c5 z1 z2 f5;obtain ⟨c0, c1, c2, c3, c4, c5, z1, z2⟩ := S6.cells;have H7 := Lib.hid (And.intro k6 (And.intro S6 kw));clear k6 S6 kw;go_upto_region 7 with (go_at_call 20; refine H7.out.2.2.mono ?_; rintro e w7 ⟨rfl, b7'⟩; have HW := Lib.hid b7'; clear b7')
  have S7 := H7.out.2.1.keep0 (Keep.of_below HW.out);have kA : Keep [lb] W2 w7 := (((H4.out.1.trans H5.out.1 (by simp)).trans H6.out.1 (by simp)).mono (S' := [lb]) (by simp)).trans (H7.out.1.trans (Keep.of_below (S := []) HW.out) (by simp)) (fun x hx => .inl hx);have hb7 : w7.heap[b4]? = some (.cells #[.int .i64 900, .slice (some ⟨b3, 0, none⟩) 1 1] 63 (0, 0)) := (kA.block _ (hL_ HP2.out.1) (by simp; omega)).trans HP2.out.1;have hp7 : PathB D w7 (some ⟨b3, 0, none⟩) 1 [0] := HP2.out.2.below (kA.below H2.out.1.M.hD (by simp; omega));clear c0 c1 c2 c3 c4 c5 z1 z2;obtain ⟨c0, c1, c2, _, _, _, z1, _⟩ := S7.cells;obtain ⟨i0, hi, hz0, hz1, hz2⟩ := info_parts infoBrt;obtain ⟨X, hX⟩ : ∃ X, X = (w7.alloc (.cells #[.int .i64 0] 3)).alloc (.cells #[.int .i64 700, .slice (some ⟨w7.heap.size, 0, none⟩) 1 1] 63) := ⟨_, rfl⟩;have kX : Keep [] w7 X := by rw [hX]; exact ((Keep.refl _ _).alloc _).alloc _
  have oX : OwnS X 63 2 (some ⟨b4, 0, none⟩) 1 1 [.int .i64 900, .slice (some ⟨b3, 0, none⟩) 1 1] [b4] :=
    ⟨rfl, .inr ⟨b4, _, rfl, rfl, (kX.block _ (hL_ hb7) (by simp)).trans hb7, by decide, by decide, rfl, fun j u hu => by simpa using hu⟩⟩
  have rX : Rd X 2 (some ⟨w7.heap.size + 1, 0, none⟩) 1 [.int .i64 700, .slice (some ⟨w7.heap.size, 0, none⟩) 1 1] := by
    have := rd_litP (w7.alloc (.cells #[.int .i64 0] 3)) 2 1 [.int .i64 700, .slice (some ⟨w7.heap.size, 0, none⟩) 1 1] 63 rfl;rw [World.size_alloc] at this;rw [hX]; exact this
  have H8 := Lib.hid (And.intro kX (And.intro oX (And.intro rX (And.intro S7 (And.intro kA (And.intro hb7 hp7))))));clear kX oX rX S7 kA hb7 hp7
  go_upto_region 8 with (at_builtin
                         refine wpList_append_M rfl (.tmp 51) (.tmp 54) 42 rfl i0 _ 32 Try.underlying42 hi hz0 hz1 hz2 rfl (A := some ⟨b4, 0, none⟩) (n := 1) (c := 1) (B := some ⟨w7.heap.size + 1, 0, none⟩) (m := 1) (d := 1) (xs := [.int .i64 900, .slice (some ⟨b3, 0, none⟩) 1 1]) (fp := [b4]) (ys := [.int .i64 700, .slice (some ⟨w7.heap.size, 0, none⟩) 1 1]) (by simp [Act.eval]) (by simp [Act.eval]) (by rw [← hX]; exact H8.out.2.1) (by rw [← hX]; exact H8.out.2.2.1) (by intro u hu; simp at hu; rcases hu with rfl | rfl <;> rfl) (by omega) (by omega) ?_;intro A' c' w8 fp' h1 h2 h3;rw [← hX] at h2 h3;have S8 := H8.out.2.2.2.1.keep0 H8.out.1;have hp8 := (h3.block _ (hL_ S8.hp) (by simp; omega)).trans S8.hp;have p0 := (cOH hp8 0).trans rfl;have p1 := (cOH hp8 1).trans rfl;have p2 := (cOH hp8 2).trans rfl;have f8 := fOH hp8 1;have z8 := hL_ hp8;have HR := Lib.hid hp8;clear hp8 S8;have HQ := Lib.hid (And.intro h1 (And.intro h2 h3));clear h1 h2 h3)
  obtain ⟨oQ, iQ, kQ⟩ := HQ.out;obtain ⟨g, cur, rfl, rfl, hg, hc1, hc2, hc3, hc4⟩ := oQ.2.resolve_left (fun h => by cases h.2.1);obtain ⟨W9, hW9⟩ : ∃ W, W = w8.setCell ⟨pb, 1, none⟩ (.slice (some ⟨g, 0, none⟩) 2 c') := ⟨_, rfl⟩;have hgp : g ≠ pb := ne_ty hg HR.out (by decide);have hk9 : Keep [b4, pb] X W9 := by rw [hW9]; exact (kQ.mono (by simp)).setCell (.inl (by simp)) _
  have hp9 : W9.heap[pb]? = some (.cells #[.slice (some ⟨b2, 0, none⟩) 1 1, .slice (some ⟨g, 0, none⟩) 2 c', .int .i64 3] 44 (0, 0)) := by rw [hW9]; exact hS_ HR.out 1 _
  have hg9 : W9.heap[g]? = some (.cells cur 63 (0, 0)) := by rw [hW9]; exact hSN hg hgp _
  have q0 : W9.cell? ⟨pb, 0, none⟩ = some (.slice (some ⟨b2, 0, none⟩) 1 1) := (cOH hp9 0).trans rfl;have q1 : W9.cell? ⟨pb, 1, none⟩ = some (.slice (some ⟨g, 0, none⟩) 2 c') := (cOH hp9 1).trans rfl;have q2 : W9.cell? ⟨pb, 2, none⟩ = some (.int .i64 3) := (cOH hp9 2).trans rfl;have z9 := hL_ hp9;rw [← hW9];have hpn : X.heap[w7.heap.size]? = some (.cells #[.int .i64 0] 3 (0, 0)) := by rw [hX]; exact hA_ (heap_alloc_new _ _) _
  have hs7 := H8.out.2.2.2.1.M.hD;have hpb7 := hL_ H8.out.2.2.2.1.hp;have hXs : X.heap.size = w7.heap.size + 2 := by rw [hX]; simp
  obtain ⟨Y, hY⟩ : ∃ Y, Y = W9.alloc (.cells #[.int .i64 0, .int .i64 10, .int .i64 8, .int .i64 600, .int .i64 1, .int .i64 4, .int .i64 5, .int .i64 800, .int .i64 2, .int .i64 20, .int .i64 3, .int .i64 650] 90) := ⟨_, rfl⟩;have kY : Keep [b4, pb] X Y := by rw [hY]; exact hk9.alloc _
  have kY7 : Keep [b4, pb] w7 Y := (H8.out.1.mono (S' := [b4, pb]) (by simp)).trans kY (fun x hx => .inl hx);have hvY : Y.heap[W9.heap.size]? = some (.cells #[.int .i64 0, .int .i64 10, .int .i64 8, .int .i64 600, .int .i64 1, .int .i64 4, .int .i64 5, .int .i64 800, .int .i64 2, .int .i64 20, .int .i64 3, .int .i64 650] 90 (0, 0)) := by rw [hY]; exact heap_alloc_new _ _
  have hgY : Y.heap[g]? = some (.cells cur 63 (0, 0)) := by rw [hY]; exact hA_ hg9 _
  have hnY : Y.heap[w7.heap.size]? = some (.cells #[.int .i64 0] 3 (0, 0)) := (kY.block _ (hL_ hpn) (by simp; omega)).trans hpn;have hch : RdB Y.heap.size Y 3 (some ⟨b2, 0, none⟩) 1 (chcs exPrt.chs) := RdB.of (kY7.rd (H8.out.2.2.2.1.M.PB.chs.rd hs7) (fun b off e => by injection e with e; injection e with e _ _; simp; omega)) (Nat.le_refl _);have hpt : PathB Y.heap.size Y (some ⟨b3, 0, none⟩) 1 [0] := ⟨RdB.of (kY7.rd (H8.out.2.2.2.2.2.2.1.rd hs7) (fun b off e => by injection e with e; injection e with e _ _; simp; omega)) (Nat.le_refl _), H8.out.2.2.2.2.2.2.2⟩;have hpt2 : PathB Y.heap.size Y (some ⟨w7.heap.size, 0, none⟩) 1 [0] := ⟨⟨rfl, fun _ => ⟨_, 0, rfl, hL_ hnY, fun j u hu => (cOH hnY _).trans (by simpa [ints] using hu)⟩⟩, by simp, by decide, by simp⟩;have PB2 : PrtB Y.heap.size Y (some ⟨b2, 0, none⟩) 1 (some ⟨g, 0, none⟩) c' exPrt2 := by
    refine ⟨hch, ?_, ⟨by decide, by decide, by simp⟩, ⟨hc1, hc2, by simp⟩⟩;intro k hk;have hk2 : k = 0 ∨ k = 1 := by simp [exPrt2] at hk; omega
    rcases hk2 with rfl | rfl
    · exact ⟨g, 0, _, _, rfl, hL_ hgY, (cOH hgY _).trans (hc4 0 _ rfl), (cOH hgY _).trans (hc4 1 _ rfl), hpt⟩
    · exact ⟨g, 0, _, _, rfl, hL_ hgY, (cOH hgY _).trans (hc4 2 _ rfl), (cOH hgY _).trans (hc4 3 _ rfl), hpt2⟩
  have kb := best_ex PB2 (Nat.le_refl _) hvY (hL_ hvY);have HY := Lib.hid (And.intro kY7 (And.intro kb hY));clear hW9 hp9 hgp hs7 hpb7 hXs kY kY7 hvY hgY hnY hch hpt hpt2 PB2 kb hY hk9 hg9 hpn hg hc1 hc2 hc3 hc4 p0 p1 p2 f8 z8 oQ iQ kQ hX c0 c1 c2 z1;go_upto_region 9 with (rw [← HY.out.2.2]; go_at_call 21; refine HY.out.2.1.mono ?_; rintro e w10 ⟨A10, d10, rfl, o10, b10⟩; have HB := Lib.hid (And.intro o10 b10); clear o10 b10)
  go_upto_region 11 with fail
  have kZ : Keep [b4, pb] w7 w10 := HY.out.1.trans (Keep.of_below (S := []) HB.out.2) (by simp);have kA5 : Keep [lb] w5 w7 := H7.out.1.trans (Keep.of_below (S := []) HW.out) (by simp);have kA4 : Keep [lb] W4 w7 := (H6.out.1.mono (S' := [lb]) (by simp)).trans kA5 (fun x hx => .inl hx);have kA3 : Keep [lb] W3 w7 := (H5.out.1.mono (S' := [lb]) (by simp)).trans kA4 (fun x hx => .inl hx);have gs7 := (kA3.block _ (hL_ H4.out.2.1) (by simp; exact ne_ty H4.out.2.1 H4.out.2.2.2.1.hl (by decide))).trans H4.out.2.1;have gs := (kZ.block _ (hL_ gs7) (by simp; exact ⟨ne_ty gs7 H8.out.2.2.2.2.2.1 (by decide), ne_ty gs7 H8.out.2.2.2.1.hp (by decide)⟩)).trans gs7;have gm7 := (kA4.block _ (hL_ H5.out.2.1) (by simp; exact ne_ty H5.out.2.1 H5.out.2.2.1.hl (by decide))).trans H5.out.2.1;have gm := (kZ.block _ (hL_ gm7) (by simp; exact ⟨ne_ty gm7 H8.out.2.2.2.2.2.1 (by decide), ne_ty gm7 H8.out.2.2.2.1.hp (by decide)⟩)).trans gm7;have u1 := hL_ H2.out.1.hl;have u2 := hL_ H2.out.1.hp;have u3 := H2.out.1.M.hD;have u4 := H4.out.1.size;have u5 := H5.out.1.size;have R3 : Rd w10 1 A3 1 (ints [24]) := kZ.rd (kA3.rd H4.out.2.2.1 (fun b off e => by have := HF3.out b off e; simp at this ⊢; omega)) (fun b off e => by have := HF3.out b off e; simp at this ⊢; omega);have R5 : Rd w10 1 A5 1 (ints [58]) := kZ.rd (kA5.rd HS.out.1 (fun b off e => by have := HF5.out b off e; simp at this ⊢; omega)) (fun b off e => by have := HF5.out b off e; simp at this ⊢; omega);have heq : ∀ wx, (binOp .eql 79 (.agg #[.int .i64 (-6), .int .i64 15, .int .i64 58]) (.agg #[.int .i64 (-6), .int .i64 15, .int .i64 58])).run Try.prog wx = .ok (.bool true) wx := fun wx => by
    have u3 := Try.underlying3;have a3 := Try.isAgg3;have z3 := Try.sizeOf3;have hS : Try.prog.underlying 79 = some (.struct (Try.prog.fieldsOf 79)) := by kernel_rfl
    have hp : Try.prog.stoodInHeld 79 = false := by kernel_rfl
    rw [run_eql_struct, show (10000 : Nat) = 9999 + 1 from rfl, run_equalIn_agg wx 9999 79 _ _ hS hp];simp only [Program.fieldsOf, Try.underlying79];go_simp
  have bA : ∀ (wx : World) (o : Obj), Below wx.heap.size wx (wx.alloc o) := fun wx o => (Below.refl _ _).alloc (Nat.le_refl _) _;have E1 := eqIntsP_same A3 (some ⟨w10.heap.size, 0, none⟩) d3 1 1 [24] (w10.alloc (.cells #[.int .i64 24] 3)) rfl (by decide) (R3.below (bA _ _)) (rd_litP w10 1 1 (ints [24]) 3 rfl);have E2 := fun (wx : World) (b : Below w10.heap.size w10 wx) => eqIntsP_same A5 (some ⟨wx.heap.size, 0, none⟩) d5 1 1 [58] (wx.alloc (.cells #[.int .i64 58] 3)) rfl (by decide) ((R5.below b).below (bA _ _)) (rd_litP wx 1 1 (ints [58]) 3 rfl);have E3 := fun (wx : World) (b : Below w10.heap.size w10 wx) => eqPlcs_same A10 (some ⟨wx.heap.size, 0, none⟩) d10 3 3 [⟨1, 0⟩, ⟨0, 1⟩, ⟨0, 6⟩] (wx.alloc (.cells #[.int .i64 1, .int .i64 0, .int .i64 0, .int .i64 1, .int .i64 0, .int .i64 6] 95)) rfl (by decide) ((HB.out.1.below b).below (bA _ _)) (rd_litP wx 2 3 (plcs [⟨1, 0⟩, ⟨0, 1⟩, ⟨0, 6⟩]) 95 rfl);have v0 : w10.cell? ⟨sb, 0, none⟩ = some (.slice A3 1 d3) := (cOH gs 0).trans rfl;have zs := hL_ gs;have HE := Lib.hid (And.intro E1 (And.intro E2 (And.intro E3 (And.intro gm kZ))));clear E1 E2 E3 gs7 gs gm7 gm R3 R5 kZ kA5 kA4 kA3 u1 u2 u3 u4 u5 bA q0 q1 q2 z9;go_wp2_with (first
    | (go_at_call 23; refine (HE.out.2.2.1 w12 HC2.out).mono ?_; rintro e w13 ⟨rfl, b13⟩; have HC3 := Lib.hid (HC2.out.trans (((Below.refl _ _).alloc HC2.out.size _).trans (b13.mono (by have := HC2.out.size; simp; omega)))); clear b13)
    | (go_at_call 22; have bb := HC1; clear bb; refine (HE.out.2.1 w11 HC1.out).mono ?_; rintro e w12 ⟨rfl, b12⟩; have HC2 := Lib.hid (HC1.out.trans (((Below.refl _ _).alloc HC1.out.size _).trans (b12.mono (by have := HC1.out.size; simp; omega)))); clear b12)
    | (go_at_call 22; refine HE.out.1.mono ?_; rintro e w11 ⟨rfl, b11⟩; have HC1 := Lib.hid (((Below.refl w10.heap.size w10).alloc (Nat.le_refl _) _).trans (b11.mono (by simp))); have hm := (HC1.out.block _ (hL_ HE.out.2.2.2.1)).trans HE.out.2.2.2.1; have m0 := (cOH hm 0).trans rfl; have m1 := (cOH hm 1).trans rfl; have m2 := (cOH hm 2).trans rfl; have zm := hL_ hm; clear hm b11))
  go_ret;have y1 := H2.out.2.1.size;have y2 := H8.out.2.2.2.2.1.size;have y3 := HE.out.2.2.2.2.size;exact ⟨rfl, H2.out.2.1.trans ((H8.out.2.2.2.2.1.below y1 (by simp; omega)).trans ((HE.out.2.2.2.2.below (by omega) (by simp; omega)).trans (HC3.out.mono (by omega))))⟩
end Go.Proofs.Ytalcinepeofmcaa
namespace Go.Proofs.Ytalcinepeofmcaa
open Go Go.RowKit Sp Pt
structure PoC where
  pb : Nat
  lb : Nat
  Ac : Option Addr
  cc : Nat
  Ab : Option Addr
  cb : Nat
  p : Prt
  Al : Option Addr
  cl : Nat
  As : Option Addr
  cs : Nat
  l : Pln
structure PoE (c : PoC) (w : World) : Prop where
  hp : w.heap[c.pb]? = some (.cells (prtV c.Ac c.cc c.Ab c.cb c.p) 44 (0, 0))
  hl : w.heap[c.lb]? = some (.cells (plnV c.Al c.cl c.As c.cs c.l) 49 (0, 0))
  PB : PrtB w.heap.size w c.Ac c.cc c.Ab c.cb c.p
  LB : PlnB w.heap.size w c.Al c.cl c.As c.cs c.l
section
variable {c : PoC} {w w' : World}
theorem PoE.below (h : PoE c w) (hb : Below w.heap.size w w') : PoE c w' :=
  ⟨(hb.block _ (hL_ h.hp)).trans h.hp, (hb.block _ (hL_ h.hl)).trans h.hl, (h.PB.below hb).mono hb.size, (h.LB.below hb).mono hb.size⟩
theorem PoE.cells (h : PoE c w) : w.cell? ⟨c.pb, 0, none⟩ = some (.slice c.Ac c.p.chs.length c.cc) ∧ w.cell? ⟨c.pb, 1, none⟩ = some (.slice c.Ab c.p.bts.length c.cb) ∧ w.cell? ⟨c.pb, 2, none⟩ = some (.int .i64 c.p.tugs) ∧
    w.cell? ⟨c.lb, 0, none⟩ = some (.int .i64 c.l.hours) ∧ w.cell? ⟨c.lb, 1, none⟩ = some (.slice c.Al c.l.calls.length c.cl) ∧ w.cell? ⟨c.lb, 2, none⟩ = some (.slice c.As c.l.swps.length c.cs) ∧ c.pb < w.heap.size ∧ c.lb < w.heap.size :=
  ⟨(cOH h.hp 0).trans rfl, (cOH h.hp 1).trans rfl, (cOH h.hp 2).trans rfl, (cOH h.hl 0).trans rfl, (cOH h.hl 1).trans rfl, (cOH h.hl 2).trans rfl, hL_ h.hp, hL_ h.hl⟩
end
structure StC where
  sb : Nat
  gb : Nat
  cr : Nat
  ub : Nat
  b : List Int
structure StE (c : PoC) (s : StC) (w : World) : Prop where
  hs : w.heap[s.sb]? = some (.cells #[.slice (some ⟨s.gb, 0, none⟩) s.b.length s.cr, .slice (some ⟨s.ub, 0, none⟩) c.p.bts.length c.p.bts.length] 58 (0, 0))
  SB : SttB w.heap.size w (some ⟨s.gb, 0, none⟩) s.cr (some ⟨s.ub, 0, none⟩) c.p.bts.length (st0 c.p s.b)
section
variable {c : PoC} {s : StC} {w w' : World}
theorem StE.cells (h : StE c s w) : w.cell? ⟨s.sb, 0, none⟩ = some (.slice (some ⟨s.gb, 0, none⟩) s.b.length s.cr) ∧ w.cell? ⟨s.sb, 1, none⟩ = some (.slice (some ⟨s.ub, 0, none⟩) c.p.bts.length c.p.bts.length) ∧ s.sb < w.heap.size :=
  ⟨(cOH h.hs 0).trans rfl, (cOH h.hs 1).trans rfl, hL_ h.hs⟩
end
theorem own_nil {w : World} {e : TypeId} {s n c : Nat} {A : Option Addr} {xs : List Value} {q : List Nat} (ho : OwnS w e s A n c xs q) (hA : A = none) : c = 0 := by
  rcases ho.2 with ⟨_, _, h3, _⟩ | ⟨g, cur, e1, _⟩
  · exact h3
  · rw [hA] at e1; cases e1
theorem StE.of {c : PoC} {s : StC} {w : World} {q : List Nat} (hs : w.heap[s.sb]? = some (.cells #[.slice (some ⟨s.gb, 0, none⟩) s.b.length s.cr, .slice (some ⟨s.ub, 0, none⟩) c.p.bts.length c.p.bts.length] 58 (0, 0)))
    (h1 : OwnS w 3 1 (some ⟨s.gb, 0, none⟩) s.b.length s.cr (ints s.b) q) (h2 : OwnS w 4 1 (some ⟨s.ub, 0, none⟩) c.p.bts.length c.p.bts.length (bools (noB c.p)) [s.ub]) : StE c s w := by
  have e : (noB c.p).length = c.p.bts.length := by simp [noB]
  refine ⟨hs, RdB.of h1.rd (Nat.le_refl _), ?_, ⟨h1.ge, h1.cap, own_nil h1⟩, ⟨by simp [st0, noB], h2.cap, fun h => by cases h⟩⟩;have := h2.rd;simp only [st0, e];exact RdB.of this (Nat.le_refl _)
theorem PoE.trace {c : PoC} {s : StC} {w : World} (h : PoE c w) (hs : StE c s w) : Calls Try.prog 13 #[.agg (prtV c.Ac c.cc c.Ab c.cb c.p), .agg #[.slice (some ⟨s.gb, 0, none⟩) s.b.length s.cr, .slice (some ⟨s.ub, 0, none⟩) c.p.bts.length c.p.bts.length], .agg (plnV c.Al c.cl c.As c.cs c.l)] w (TracePost w c.p (st0 c.p s.b) c.l) := by
  have := Trace_any w.heap.size c.Ac c.cc c.Ab c.cb c.p c.Al c.cl c.As c.cs c.l (some ⟨s.gb, 0, none⟩) s.cr (some ⟨s.ub, 0, none⟩) c.p.bts.length (st0 c.p s.b) w h.PB h.LB hs.SB (Nat.le_refl _);simp only [sttV, st0, noB, List.length_replicate] at this ⊢;exact this
theorem rd_lt {w : World} {size n : Nat} {A : Option Addr} {xs : List Value} (hr : Rd w size A n xs) : 0 < n → ∀ b off, A = some ⟨b, off, none⟩ → b < w.heap.size := fun h0 b off e => by
  obtain ⟨b', o', e', hb, _⟩ := hr.2 h0;rw [e] at e';injection e' with e'
  injection e' with e' _ _
  omega
def BrOk (B : Int) (b : List Int) : Prop := ∀ x ∈ b, 0 ≤ x ∧ x < B
theorem BrOk.snoc {B : Int} {b : List Int} (h : BrOk B b) {x : Int} (hx : 0 ≤ x ∧ x < B) : BrOk B (b ++ [x]) := fun y hy => by
  rcases List.mem_append.1 hy with hy | hy
  · exact h y hy
  · rw [List.mem_singleton.1 hy]; exact hx
theorem ints_snoc (b : List Int) (x : Int) : ints b ++ [.int .i64 x] = ints (b ++ [x]) := by simp [ints]
theorem drawn_at (D : Nat) (A : Option Addr) (c : Nat) (l : List Int) (w0 w : World) (hr : Rd w0 1 A l.length (byts l)) (hl : Bytes l) (hm : l.length ≤ 9223372036854775800) (hb : Below w0.heap.size w0 w) (hD : w0.heap.size ≤ D) (hDw : D ≤ w.heap.size) :
    Calls Try.prog 12 #[.slice A l.length c] w (DrawnPost D w) :=
  Drawn_some D A c l w (hr.below hb) hl (by omega) hDw fun h0 b off e => Nat.lt_of_lt_of_le (rd_lt hr h0 b off e) hD
end Go.Proofs.Ytalcinepeofmcaa
