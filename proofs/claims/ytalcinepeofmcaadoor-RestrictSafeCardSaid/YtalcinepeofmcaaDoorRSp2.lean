import Derived.Test.YtalcinepeofmcaaDoorProg
import Derived.Test.YtalcinepeofmcaaDoorRSp0
import Derived.WalkKit
set_option linter.unusedVariables false
set_option linter.unusedSimpArgs false
namespace Go.Proofs.YtalcinepeofmcaaDoor
open Go Go.RowKit Sp

def winCells (wide at_ : Int) (gr : Bool) (v1 v2 : Value) : Array Value := #[.int .i64 wide, .int .i64 at_, .bool gr, v1, v2]

theorem info_int : (Tryd.prog.info? 3).map (fun i => (i.zero, i.size, i.bytes)) = some (some (.int .i64 0), 1, 8) := by kernel_rfl

/-- between the operations of 'w.values, w.when = append(..), append(..)' -/
structure St (w0 w : World) (pb : Nat) (cs : Array Value) (A1 : Option Addr) (n1 c1 : Nat) (xs1 : List Value) (fp1 : List Nat) (A2 : Option Addr) (n2 c2 : Nat) (xs2 : List Value) (fp2 : List Nat) (S : List Nat) : Prop where
  keep : Keep S w0 w
  cells : w.heap[pb]? = some (.cells cs 156 (0, 0))
  o1 : OwnA w 3 A1 n1 c1 xs1 fp1
  o2 : OwnA w 3 A2 n2 c2 xs2 fp2
  d12 : ∀ g ∈ fp1, g ∉ fp2
  p1 : pb ∉ fp1
  p2 : pb ∉ fp2
  s1 : ∀ g ∈ fp1, g ∈ S ∨ w0.heap.size ≤ g
  s2 : ∀ g ∈ fp2, g ∈ S ∨ w0.heap.size ≤ g

section
variable {w0 w w' : World} {pb : Nat} {cs : Array Value} {A1 : Option Addr} {n1 c1 : Nat} {xs1 : List Value} {fp1 : List Nat} {A2 : Option Addr} {n2 c2 : Nat} {xs2 : List Value} {fp2 : List Nat} {S : List Nat}
theorem St.alloc (h : St w0 w pb cs A1 n1 c1 xs1 fp1 A2 n2 c2 xs2 fp2 S) (o : Obj) : St w0 (w.alloc o) pb cs A1 n1 c1 xs1 fp1 A2 n2 c2 xs2 fp2 S :=
  ⟨h.keep.alloc o, heap_alloc' h.cells o, h.o1.alloc o, h.o2.alloc o, h.d12, h.p1, h.p2, h.s1, h.s2⟩
theorem St.drewN (h : St w0 w pb cs A1 n1 c1 xs1 fp1 A2 n2 c2 xs2 fp2 S) (k : Nat) : St w0 (w.drewN k) pb cs A1 n1 c1 xs1 fp1 A2 n2 c2 xs2 fp2 S :=
  ⟨h.keep.drewN k, h.cells, h.o1.drewN k, h.o2.drewN k, h.d12, h.p1, h.p2, h.s1, h.s2⟩
theorem St.drew (h : St w0 w pb cs A1 n1 c1 xs1 fp1 A2 n2 c2 xs2 fp2 S) : St w0 w.drew pb cs A1 n1 c1 xs1 fp1 A2 n2 c2 xs2 fp2 S := h.drewN 1
theorem St.app1 (h : St w0 w pb cs A1 n1 c1 xs1 fp1 A2 n2 c2 xs2 fp2 S) {g off c' : Nat} {xs : List Value} {n : Nat} (ho : OwnA w' 3 (some ⟨g, off, none⟩) n c' xs [g]) (hg : g ∈ fp1 ∨ w.heap.size = g) (hk : Keep fp1 w w') :
    St w0 w' pb cs (some ⟨g, off, none⟩) n c' xs [g] A2 n2 c2 xs2 fp2 S := by
  have hlt := heap_lt h.cells
  refine ⟨h.keep.trans hk h.s1, (hk.block pb hlt h.p1).trans h.cells, ho, h.o2.keepS hk (fun g hg hm => h.d12 g hm hg), ?_, ?_, h.p2, ?_, h.s2⟩
  · intro g' hg' hm
    obtain rfl : g' = g := by simpa using hg'
    rcases hg with hg | hg
    · exact h.d12 _ hg hm
    · have := h.o2.lt _ hm; omega
  · simp only [List.mem_singleton]
    rintro rfl
    rcases hg with hg | hg
    · exact h.p1 hg
    · omega
  · intro g' hg'
    obtain rfl : g' = g := by simpa using hg'
    rcases hg with hg | hg
    · exact h.s1 _ hg
    · right; have := h.keep.size; omega
theorem St.app2 (h : St w0 w pb cs A1 n1 c1 xs1 fp1 A2 n2 c2 xs2 fp2 S) {g off c' : Nat} {xs : List Value} {n : Nat} (ho : OwnA w' 3 (some ⟨g, off, none⟩) n c' xs [g]) (hg : g ∈ fp2 ∨ w.heap.size = g) (hk : Keep fp2 w w') :
    St w0 w' pb cs A1 n1 c1 xs1 fp1 (some ⟨g, off, none⟩) n c' xs [g] S := by
  have hlt := heap_lt h.cells
  refine ⟨h.keep.trans hk h.s2, (hk.block pb hlt h.p2).trans h.cells, h.o1.keepS hk (fun g hg hm => h.d12 g hg hm), ho, ?_, h.p1, ?_, h.s1, ?_⟩
  · intro g' hg' hm
    obtain rfl : g' = g := by simpa using hm
    rcases hg with hg | hg
    · exact h.d12 _ hg' hg
    · have := h.o1.lt _ hg'; omega
  · simp only [List.mem_singleton]
    rintro rfl
    rcases hg with hg | hg
    · exact h.p2 hg
    · omega
  · intro g' hg'
    obtain rfl : g' = g := by simpa using hg'
    rcases hg with hg | hg
    · exact h.s2 _ hg
    · right; have := h.keep.size; omega
end


/-- what is known between the operations of region 5 -/
structure Gh where
  g7 : Nat
  g17 : Nat
  A1 : Option Addr
  n1 : Nat
  c1 : Nat
  xs1 : List Value
  fp1 : List Nat
  A2 : Option Addr
  n2 : Nat
  c2 : Nat
  xs2 : List Value
  fp2 : List Nat

def Gφ (pb k c1 c2 : Nat) (A1 A2 : Option Addr) (x at_ : Int) (s : Gh) (j : Nat) (v : Value) (_w : World) : Prop :=
  match j with
  | 5 => v = .slice A1 k c1
  | 6 => v = .int .i64 x
  | 7 => v = .slice (some ⟨s.g7, 0, none⟩) 1 1
  | 8 => v = .slice s.A1 s.n1 s.c1
  | 12 => v = .slice A2 k c2
  | 16 => v = .int .i64 at_
  | 17 => v = .slice (some ⟨s.g17, 0, none⟩) 1 1
  | 18 => v = .slice s.A2 s.n2 s.c2
  | 4 => v = .pointer (some ⟨pb, 3, none⟩)
  | 11 => v = .pointer (some ⟨pb, 4, none⟩)
  | 15 => v = .pointer (some ⟨pb, 1, none⟩)
  | 20 => v = .pointer (some ⟨pb, 3, none⟩)
  | 23 => v = .pointer (some ⟨pb, 4, none⟩)
  | _ => v = .pointer (some ⟨pb, 0, none⟩)

structure GW (w0 : World) (pb k c1 c2 : Nat) (A1 A2 : Option Addr) (xs1 xs2 : List Value) (fp1 fp2 : List Nat) (S : List Nat) (wide at_ x : Int) (gr : Bool) (s : Gh) (l : Nat → Bool) (w : World) : Prop where
  st : St w0 w pb (winCells wide at_ gr (if l 21 then .slice s.A1 s.n1 s.c1 else .slice A1 k c1) (if l 24 then .slice s.A2 s.n2 s.c2 else .slice A2 k c2)) s.A1 s.n1 s.c1 s.xs1 s.fp1 s.A2 s.n2 s.c2 s.xs2 s.fp2 S
  o1 : l 8 = false → s.A1 = A1 ∧ s.n1 = k ∧ s.c1 = c1 ∧ s.xs1 = xs1 ∧ s.fp1 = fp1
  p1 : l 8 = true → s.n1 = k + 1 ∧ s.xs1 = xs1 ++ [.int .i64 x]
  o2 : l 18 = false → s.A2 = A2 ∧ s.n2 = k ∧ s.c2 = c2 ∧ s.xs2 = xs2 ∧ s.fp2 = fp2
  p2 : l 18 = true → s.n2 = k + 1 ∧ s.xs2 = xs2 ++ [.int .i64 at_]
  b7 : l 7 = true → w.cell? ⟨s.g7, 0, none⟩ = some (.int .i64 x) ∧ s.g7 ∉ s.fp1 ∧ s.g7 ∉ s.fp2 ∧ s.g7 ≠ pb ∧ s.g7 < w.heap.size
  b17 : l 17 = true → w.cell? ⟨s.g17, 0, none⟩ = some (.int .i64 at_) ∧ s.g17 ∉ s.fp1 ∧ s.g17 ∉ s.fp2 ∧ s.g17 ≠ pb ∧ s.g17 < w.heap.size

theorem GW.other {w0 : World} {pb k c1 c2 : Nat} {A1 A2 : Option Addr} {xs1 xs2 : List Value} {fp1 fp2 : List Nat} {S : List Nat} {wide at_ x : Int} {gr : Bool} {s : Gh} {l : Nat → Bool} {w : World} {i : Nat}
    (h : GW w0 pb k c1 c2 A1 A2 xs1 xs2 fp1 fp2 S wide at_ x gr s l w) (hi : i ∉ [7, 8, 17, 18, 21, 24]) : GW w0 pb k c1 c2 A1 A2 xs1 xs2 fp1 fp2 S wide at_ x gr s (upd l i) w := by
  have e : ∀ j, j ∈ [7, 8, 17, 18, 21, 24] → upd l i j = l j := fun j hj => by
    simp only [upd]; rw [if_neg]; rintro rfl; exact hi hj
  have e7 := e 7 (by decide)
  have e8 := e 8 (by decide)
  have e17 := e 17 (by decide)
  have e18 := e 18 (by decide)
  have e21 := e 21 (by decide)
  have e24 := e 24 (by decide)
  exact ⟨by rw [e21, e24]; exact h.st, by rw [e8]; exact h.o1, by rw [e8]; exact h.p1, by rw [e18]; exact h.o2, by rw [e18]; exact h.p2, by rw [e7]; exact h.b7, by rw [e17]; exact h.b17⟩

section
variable {w0 : World} {pb k c1 c2 : Nat} {A1 A2 : Option Addr} {xs1 xs2 : List Value} {fp1 fp2 : List Nat} {S : List Nat} {wide at_ x : Int} {gr : Bool} {s : Gh} {l : Nat → Bool} {w : World}
theorem GW.build7 (h : GW w0 pb k c1 c2 A1 A2 xs1 xs2 fp1 fp2 S wide at_ x gr s l w) : GW w0 pb k c1 c2 A1 A2 xs1 xs2 fp1 fp2 S wide at_ x gr { s with g7 := w.heap.size } (upd l 7) (w.alloc (.cells #[.int .i64 x] 3)) := by
  have hp := heap_lt h.st.cells
  refine ⟨by simpa [upd] using h.st.alloc _, by simpa [upd] using h.o1, by simpa [upd] using h.p1, by simpa [upd] using h.o2, by simpa [upd] using h.p2, fun _ => ⟨?_, ?_, ?_, ?_, ?_⟩, fun h17 => ?_⟩
  · simp [World.cell?_alloc_new]
  · intro hm; have := h.st.o1.lt _ hm; simp at this
  · intro hm; have := h.st.o2.lt _ hm; simp at this
  · simp only []; omega
  · simp
  · obtain ⟨a1, a2, a3, a4, a5⟩ := h.b17 (by simpa [upd] using h17)
    exact ⟨by rw [World.cell?_alloc_lt _ _ _ a5]; exact a1, a2, a3, a4, by simp; omega⟩
theorem GW.build17 (h : GW w0 pb k c1 c2 A1 A2 xs1 xs2 fp1 fp2 S wide at_ x gr s l w) : GW w0 pb k c1 c2 A1 A2 xs1 xs2 fp1 fp2 S wide at_ x gr { s with g17 := w.heap.size } (upd l 17) (w.alloc (.cells #[.int .i64 at_] 3)) := by
  have hp := heap_lt h.st.cells
  refine ⟨by simpa [upd] using h.st.alloc _, by simpa [upd] using h.o1, by simpa [upd] using h.p1, by simpa [upd] using h.o2, by simpa [upd] using h.p2, fun h7 => ?_, fun _ => ⟨?_, ?_, ?_, ?_, ?_⟩⟩
  · obtain ⟨a1, a2, a3, a4, a5⟩ := h.b7 (by simpa [upd] using h7)
    exact ⟨by rw [World.cell?_alloc_lt _ _ _ a5]; exact a1, a2, a3, a4, by simp; omega⟩
  · simp [World.cell?_alloc_new]
  · intro hm; have := h.st.o1.lt _ hm; simp at this
  · intro hm; have := h.st.o2.lt _ hm; simp at this
  · simp only []; omega
  · simp
theorem GW.app8 {w' : World} {g off c' : Nat} (h : GW w0 pb k c1 c2 A1 A2 xs1 xs2 fp1 fp2 S wide at_ x gr s l w) (h21 : l 21 = false)
    (ho : OwnA w' 3 (some ⟨g, off, none⟩) (k + 1) c' (xs1 ++ [.int .i64 x]) [g]) (hg : g ∈ s.fp1 ∨ w.heap.size = g) (hk : Keep s.fp1 w w') :
    GW w0 pb k c1 c2 A1 A2 xs1 xs2 fp1 fp2 S wide at_ x gr { s with A1 := some ⟨g, off, none⟩, n1 := k + 1, c1 := c', xs1 := xs1 ++ [.int .i64 x], fp1 := [g] } (upd l 8) w' := by
  refine ⟨?_, fun h => by simp [upd] at h, fun _ => ⟨rfl, rfl⟩, by simpa [upd] using h.o2, by simpa [upd] using h.p2, fun h7 => ?_, fun h17 => ?_⟩
  · have := h.st.app1 ho hg hk
    simpa [upd, h21] using this
  · obtain ⟨a1, a2, a3, a4, a5⟩ := h.b7 (by simpa [upd] using h7)
    refine ⟨(World.cell?_of_block (w := w) (hk.block _ a5 a2)).trans a1, ?_, a3, a4, Nat.lt_of_lt_of_le a5 hk.size⟩
    simp only [List.mem_singleton]
    rintro e
    rcases hg with hg | hg
    · exact a2 (by rw [e]; exact hg)
    · omega
  · obtain ⟨a1, a2, a3, a4, a5⟩ := h.b17 (by simpa [upd] using h17)
    refine ⟨(World.cell?_of_block (w := w) (hk.block _ a5 a2)).trans a1, ?_, a3, a4, Nat.lt_of_lt_of_le a5 hk.size⟩
    simp only [List.mem_singleton]
    rintro e
    rcases hg with hg | hg
    · exact a2 (by rw [e]; exact hg)
    · omega
theorem GW.app18 {w' : World} {g off c' : Nat} (h : GW w0 pb k c1 c2 A1 A2 xs1 xs2 fp1 fp2 S wide at_ x gr s l w) (h24 : l 24 = false)
    (ho : OwnA w' 3 (some ⟨g, off, none⟩) (k + 1) c' (xs2 ++ [.int .i64 at_]) [g]) (hg : g ∈ s.fp2 ∨ w.heap.size = g) (hk : Keep s.fp2 w w') :
    GW w0 pb k c1 c2 A1 A2 xs1 xs2 fp1 fp2 S wide at_ x gr { s with A2 := some ⟨g, off, none⟩, n2 := k + 1, c2 := c', xs2 := xs2 ++ [.int .i64 at_], fp2 := [g] } (upd l 18) w' := by
  refine ⟨?_, by simpa [upd] using h.o1, by simpa [upd] using h.p1, fun h => by simp [upd] at h, fun _ => ⟨rfl, rfl⟩, fun h7 => ?_, fun h17 => ?_⟩
  · have := h.st.app2 ho hg hk
    simpa [upd, h24] using this
  · obtain ⟨a1, a2, a3, a4, a5⟩ := h.b7 (by simpa [upd] using h7)
    refine ⟨(World.cell?_of_block (w := w) (hk.block _ a5 a3)).trans a1, a2, ?_, a4, Nat.lt_of_lt_of_le a5 hk.size⟩
    simp only [List.mem_singleton]
    rintro e
    rcases hg with hg | hg
    · exact a3 (by rw [e]; exact hg)
    · omega
  · obtain ⟨a1, a2, a3, a4, a5⟩ := h.b17 (by simpa [upd] using h17)
    refine ⟨(World.cell?_of_block (w := w) (hk.block _ a5 a3)).trans a1, a2, ?_, a4, Nat.lt_of_lt_of_le a5 hk.size⟩
    simp only [List.mem_singleton]
    rintro e
    rcases hg with hg | hg
    · exact a3 (by rw [e]; exact hg)
    · omega
theorem St.store {cs : Array Value} {n1 c1 : Nat} {A1 A2 : Option Addr} {xs1 xs2 : List Value} {fp1 fp2 : List Nat} {n2 c2 : Nat} (h : St w0 w pb cs A1 n1 c1 xs1 fp1 A2 n2 c2 xs2 fp2 S) (hS : pb ∈ S ∨ w0.heap.size ≤ pb) (i : Nat) (u : Value) :
    St w0 (w.setCell ⟨pb, i, none⟩ u) pb (cs.setIfInBounds i u) A1 n1 c1 xs1 fp1 A2 n2 c2 xs2 fp2 S :=
  ⟨h.keep.setCell (p := ⟨pb, i, none⟩) hS u, heap_set h.cells i u, h.o1.setCell (p := ⟨pb, i, none⟩) h.p1 u, h.o2.setCell (p := ⟨pb, i, none⟩) h.p2 u, h.d12, h.p1, h.p2, h.s1, h.s2⟩
theorem GW.store (h : GW w0 pb k c1 c2 A1 A2 xs1 xs2 fp1 fp2 S wide at_ x gr s l w) (hS : pb ∈ S ∨ w0.heap.size ≤ pb) {i j : Nat} {u : Value} (hij : i = 3 ∧ j = 21 ∧ u = .slice s.A1 s.n1 s.c1 ∨ i = 4 ∧ j = 24 ∧ u = .slice s.A2 s.n2 s.c2) :
    GW w0 pb k c1 c2 A1 A2 xs1 xs2 fp1 fp2 S wide at_ x gr s (upd l j) (w.setCell ⟨pb, i, none⟩ u) := by
  have hc : ∀ g : Nat, g ≠ pb → (w.setCell ⟨pb, i, none⟩ u).cell? ⟨g, 0, none⟩ = w.cell? ⟨g, 0, none⟩ := fun g hg => World.cell?_setCell_other w _ _ u (by intro e; injection e with e1 _ _; exact hg e1.symm)
  have hz : (w.setCell ⟨pb, i, none⟩ u).heap.size = w.heap.size := by simp [World.setCell]
  rcases hij with ⟨rfl, rfl, rfl⟩ | ⟨rfl, rfl, rfl⟩
  · refine ⟨?_, by simpa [upd] using h.o1, by simpa [upd] using h.p1, by simpa [upd] using h.o2, by simpa [upd] using h.p2, fun h7 => ?_, fun h17 => ?_⟩
    · have := h.st.store hS 3 (.slice s.A1 s.n1 s.c1)
      simpa [upd, winCells] using this
    · obtain ⟨a1, a2, a3, a4, a5⟩ := h.b7 (by simpa [upd] using h7)
      exact ⟨(hc _ a4).trans a1, a2, a3, a4, by rw [hz]; exact a5⟩
    · obtain ⟨a1, a2, a3, a4, a5⟩ := h.b17 (by simpa [upd] using h17)
      exact ⟨(hc _ a4).trans a1, a2, a3, a4, by rw [hz]; exact a5⟩
  · refine ⟨?_, by simpa [upd] using h.o1, by simpa [upd] using h.p1, by simpa [upd] using h.o2, by simpa [upd] using h.p2, fun h7 => ?_, fun h17 => ?_⟩
    · have := h.st.store hS 4 (.slice s.A2 s.n2 s.c2)
      simpa [upd, winCells] using this
    · obtain ⟨a1, a2, a3, a4, a5⟩ := h.b7 (by simpa [upd] using h7)
      exact ⟨(hc _ a4).trans a1, a2, a3, a4, by rw [hz]; exact a5⟩
    · obtain ⟨a1, a2, a3, a4, a5⟩ := h.b17 (by simpa [upd] using h17)
      exact ⟨(hc _ a4).trans a1, a2, a3, a4, by rw [hz]; exact a5⟩
end


/-- how many are left of the first k when those at the end that can no longer be the first one are dropped -/
theorem popLen_le (gr : Bool) (x : Int) (V : List Int) (k : Nat) : popLen gr x V k ≤ k := by
  induction k with
  | zero => exact Nat.le_refl _
  | succ k ih => unfold popLen; split <;> omega

/-- a window in memory: pb its block; fp: all its blocks -/
def Win (w : World) (pb : Nat) (wide at_ : Int) (gr : Bool) (D : List (Int × Int)) (fp : List Nat) : Prop :=
  ∃ A1 c1 A2 c2 fp1 fp2, fp = pb :: (fp1 ++ fp2) ∧ St w w pb (winCells wide at_ gr (.slice A1 D.length c1) (.slice A2 D.length c2)) A1 D.length c1 (D.map fun p => .int .i64 p.1) fp1 A2 D.length c2 (D.map fun p => .int .i64 p.2) fp2 fp

def PushPop (gr : Bool) (x : Int) (V : List Int) (k k0 : Nat) : Prop := popLen gr x V k = popLen gr x V k0

/-- while the end is dropped: k are left -/
def PushMid (w wx : World) (pb : Nat) (wide at_ : Int) (gr : Bool) (A1 : Option Addr) (c1 : Nat) (A2 : Option Addr) (c2 k : Nat) : Prop :=
  wx.heap[pb]? = some (.cells (winCells wide at_ gr (.slice A1 k c1) (.slice A2 k c2)) 156 (0, 0)) ∧ Keep [pb] w wx

theorem PushMid.drewN {w wx : World} {pb : Nat} {wide at_ : Int} {gr : Bool} {A1 : Option Addr} {c1 : Nat} {A2 : Option Addr} {c2 k : Nat} (h : PushMid w wx pb wide at_ gr A1 c1 A2 c2 k) (n : Nat) : PushMid w (wx.drewN n) pb wide at_ gr A1 c1 A2 c2 k :=
  ⟨h.1, h.2.drewN n⟩
theorem PushMid.pop {w wx : World} {pb : Nat} {wide at_ : Int} {gr : Bool} {A1 : Option Addr} {c1 : Nat} {A2 : Option Addr} {c2 k : Nat} (h : PushMid w wx pb wide at_ gr A1 c1 A2 c2 k) (n : Nat) {k' : Nat} :
    PushMid w (((wx.drewN n).setCell ⟨pb, 3, none⟩ (.slice A1 k' c1)).setCell ⟨pb, 4, none⟩ (.slice A2 k' c2)) pb wide at_ gr A1 c1 A2 c2 k' := by
  refine ⟨?_, ((h.2.drewN n).setCell (p := ⟨pb, 3, none⟩) (.inl (by simp)) _).setCell (p := ⟨pb, 4, none⟩) (.inl (by simp)) _⟩
  have h1 : (wx.drewN n).heap[pb]? = _ := h.1
  have := heap_set (heap_set h1 3 (.slice A1 k' c1)) 4 (.slice A2 k' c2)
  simpa [winCells] using this

/-- what a push leaves -/
def PushPost (w : World) (pb : Nat) (wide at_ : Int) (gr : Bool) (D : List (Int × Int)) (fp : List Nat) (x : Int) (e : Ending) (w' : World) : Prop :=
  ∃ fp', e = .returned (.int .i64 (headV (pushD wide at_ gr D x))) ∧ Win w' pb wide (at_ + 1) gr (pushD wide at_ gr D x) fp' ∧ Keep fp w w' ∧ (∀ g ∈ fp', g ∈ fp ∨ w.heap.size ≤ g)

theorem St.popFront {w0 w : World} {pb n c1 c2 g1 o1 g2 o2 : Nat} {xs1 xs2 : List Value} {fp1 fp2 S : List Nat} {wide at_ : Int} {gr : Bool}
    (h : St w0 w pb (winCells wide at_ gr (.slice (some ⟨g1, o1, none⟩) n c1) (.slice (some ⟨g2, o2, none⟩) n c2)) (some ⟨g1, o1, none⟩) n c1 xs1 fp1 (some ⟨g2, o2, none⟩) n c2 xs2 fp2 S) (hn : 1 < n) (hS : pb ∈ S ∨ w0.heap.size ≤ pb) {k : Nat} (hk : n = k + 1) :
    St w0 ((w.setCell ⟨pb, 3, none⟩ (.slice (some ⟨g1, o1 + 1, none⟩) k (c1 - 1))).setCell ⟨pb, 4, none⟩ (.slice (some ⟨g2, o2 + 1, none⟩) k (c2 - 1))) pb
      (winCells wide at_ gr (.slice (some ⟨g1, o1 + 1, none⟩) k (c1 - 1)) (.slice (some ⟨g2, o2 + 1, none⟩) k (c2 - 1))) (some ⟨g1, o1 + 1, none⟩) k (c1 - 1) xs1.tail fp1 (some ⟨g2, o2 + 1, none⟩) k (c2 - 1) xs2.tail fp2 S := by
  have h2 := (h.store hS 3 (.slice (some ⟨g1, o1 + 1, none⟩) k (c1 - 1))).store hS 4 (.slice (some ⟨g2, o2 + 1, none⟩) k (c2 - 1))
  have e : n - 1 = k := by omega
  have o1' := h2.o1.tail hn
  have o2' := h2.o2.tail hn
  rw [e] at o1' o2'
  exact ⟨h2.keep, by simpa [winCells] using h2.cells, o1', o2', h2.d12, h2.p1, h2.p2, h2.s1, h2.s2⟩
theorem push_end {w w' : World} {pb : Nat} {wide at_ x : Int} {gr : Bool} {D D' : List (Int × Int)} {fp : List Nat} {e : Ending} {A1 A2 : Option Addr} {n c1 c2 : Nat} {q1 q2 : List Nat}
    (hp : pushD wide at_ gr D x = D')
    (hS : St w w' pb (winCells wide (at_ + 1) gr (.slice A1 n c1) (.slice A2 n c2)) A1 n c1 (D'.map fun p => .int .i64 p.1) q1 A2 n c2 (D'.map fun p => .int .i64 p.2) q2 fp)
    (hn : D'.length = n) (he : e = .returned (.int .i64 (headV (pushD wide at_ gr D x)))) (hpS : pb ∈ fp ∨ w.heap.size ≤ pb := by assumption) : PushPost w pb wide at_ gr D fp x e w' := by
  subst hn
  refine ⟨pb :: (q1 ++ q2), he, ?_, hS.keep, ?_⟩
  · rw [hp]
    exact ⟨A1, c1, A2, c2, q1, q2, rfl, Keep.refl _ _, hS.cells, hS.o1, hS.o2, hS.d12, hS.p1, hS.p2, fun g hg => .inl (by simp [hg]), fun g hg => .inl (by simp [hg])⟩
  · intro g hg
    rcases List.mem_cons.1 hg with rfl | hg
    · exact hpS
    · rcases List.mem_append.1 hg with hg | hg
      · exact hS.s1 g hg
      · exact hS.s2 g hg

set_option maxRecDepth 100000 in
set_option maxHeartbeats 4000000 in
theorem push_any (pb : Nat) (D : List (Int × Int)) (fp : List Nat) (wide at_ x : Int) (gr : Bool) (w : World) (hwin : Win w pb wide at_ gr D fp) (hw1 : 1 ≤ wide) (hw2 : wide ≤ 1000) (ha1 : 0 ≤ at_) (ha2 : at_ ≤ 1000000000) (hDl : D.length ≤ 1000000000) :
    Calls Tryd.prog 82 #[.pointer (some ⟨pb, 0, none⟩), .int .i64 x] w (PushPost w pb wide at_ gr D fp x) := by
  obtain ⟨A1, c1, A2, c2, fp1, fp2, hfp, hS⟩ := hwin
  obtain ⟨k0, hk0⟩ : ∃ k, k = D.length := ⟨_, rfl⟩
  obtain ⟨V, hV⟩ : ∃ V, V = D.map (·.1) := ⟨_, rfl⟩
  rw [← hk0] at hS
  have hcells := hS.cells
  have c3 := cell_of_heap hcells 3
  simp [winCells] at c3
  have hc1 := hS.o1.ge
  have hc2 := hS.o2.ge
  obtain ⟨i0, hi, hz0, hz1, hz2⟩ := info_parts info_int
  have hpS : pb ∈ fp ∨ w.heap.size ≤ pb := .inl (by rw [hfp]; simp)
  have HD : Aside (k0 = D.length ∧ V = D.map (·.1) ∧ fp = pb :: (fp1 ++ fp2) ∧ w.heap[pb]? = some (.cells (winCells wide at_ gr (.slice A1 k0 c1) (.slice A2 k0 c2)) 156 (0, 0))) := ⟨hk0, hV, hfp, hcells⟩
  have hk0l : k0 ≤ 1000000000 := by omega
  clear hk0 hV hfp hcells
  go_enter Tryd.func82, Tryd.ntmps82
  go_upto_block 0 with fail
  go_cut [] from 12 to 60 (fun wx => PushMid w wx pb wide at_ gr A1 c1 A2 c2 (popLen gr x V k0))
  case first =>
    -- SKIP
    go_wp2_with fail
    go_loopg [5] k0 (fun k n wr => k ≤ k0 ∧ n = .int .i64 ((k : Int) - 1) ∧ PushPop gr x V k k0 ∧ PushMid w wr pb wide at_ gr A1 c1 A2 c2 k)
    case atStart => exact ⟨Nat.le_refl _, rfl, rfl, HD.out.2.2.2, Keep.refl _ _⟩
    case round =>
      obtain ⟨hk, rfl, hpl, hmid⟩ := hrel
      have hb := hmid.1
      have f3 := frozen_of_heap hb 3
      have f4 := frozen_of_heap hb 4
      have c2' := cell_of_heap hb 2
      have c3' := cell_of_heap hb 3
      have c4' := cell_of_heap hb 4
      simp [winCells] at c2' c3' c4'
      clear hb c3
      by_cases h0 : gk = 0
      · subst h0
        go_wp2_with fail
        go_quiet (fail)
        go_wp2_with fail
        go_meet
        case rel =>
          unfold PushPop at hpl
          rw [← hpl]
          exact hmid.drewN _
      · have hk1 : (1 : Int) ≤ (gk : Int) := by omega
        have hk2 : (0 : Int) ≤ (gk : Int) - 1 := by omega
        have hk3 : (gk : Int) - 1 < (gk : Int) := by omega
        obtain ⟨g1, o1, rfl, hf1, hg1, hat1, hfz1⟩ := hS.o1.some_ (by omega)
        obtain ⟨g2, o2, rfl, hf2, hg2, hat2, hfz2⟩ := hS.o2.some_ (by omega)
        have hpg : pb ≠ g1 := by rintro rfl; exact hS.p1 (by rw [hf1]; simp)
        have hcell : wr.cell? ⟨g1, o1 + (gk - 1), none⟩ = some (.int .i64 (V.getD (gk - 1) 0)) := by
          have h1 := hat1 (gk - 1) (.int .i64 (V.getD (gk - 1) 0)) (by
            obtain ⟨e1, e2, _⟩ := HD.out
            have hlt : gk - 1 < D.length := by omega
            rw [e2]
            simp [hlt])
          rw [← h1]
          exact World.cell?_of_block (w := w) (hmid.2.block g1 hg1 (by simpa using Ne.symm hpg))
        obtain ⟨y, hy⟩ : ∃ y, y = V.getD (gk - 1) 0 := ⟨_, rfl⟩
        rw [← hy] at hcell
        have HS : Aside (popLen gr x V gk = if (y == x) || (decide (x < y) != gr) then popLen gr x V (gk - 1) else gk) := by
          obtain ⟨j, rfl⟩ : ∃ j, gk = j + 1 := ⟨gk - 1, by omega⟩
          simp only [Nat.add_sub_cancel] at hy ⊢
          rw [hy]; rfl
        have HSt := Lib.hid hS
        clear hy hat1 hfz1 hat2 hfz2 hS hf1 hf2
        by_cases hyx : (y == x) = true
        · go_wp2_with fail
          go_quiet (fail)
          go_wp2_with fail
          go_region
          go_wp2_with fail
          go_roundg (gk - 1)
          case measure => omega
          case rel =>
            have hs := HS.out
            rw [hyx] at hs
            exact ⟨by omega, by congr 1; omega, by unfold PushPop at hpl ⊢; rw [← hpl, hs]; rfl, hmid.pop _⟩
        · have hyx' : (y == x) = false := by simpa using hyx
          clear hyx
          by_cases hxy : x < y
          · have hd : decide (x < y) = true := by simpa using hxy
            cases gr
            · go_wp2_with fail
              go_quiet (fail)
              go_wp2_with fail
              go_region
              go_wp2_with fail
              go_roundg (gk - 1)
              case measure => omega
              case rel =>
                have hs := HS.out
                simp only [hd, Bool.or_true, Bool.bne_false, if_true] at hs
                exact ⟨by omega, by congr 1; omega, by unfold PushPop at hpl ⊢; rw [← hpl, hs], hmid.pop _⟩
            · go_wp2_with fail
              go_quiet (fail)
              go_wp2_with fail
              go_meet
              case rel =>
                have hs := HS.out
                simp [hd, hyx'] at hs
                unfold PushPop at hpl
                rw [← hpl, hs]
                exact hmid.drewN _
          · have hd : decide (x < y) = false := by simpa using hxy
            have hyl : y ≤ x := by omega
            cases gr
            · go_wp2_with fail
              go_quiet (fail)
              go_wp2_with fail
              go_meet
              case rel =>
                have hs := HS.out
                simp [hd, hyx'] at hs
                unfold PushPop at hpl
                rw [← hpl, hs]
                exact hmid.drewN _
            · go_wp2_with fail
              go_quiet (fail)
              go_wp2_with fail
              go_region
              go_wp2_with fail
              go_roundg (gk - 1)
              case measure => omega
              case rel =>
                have hs := HS.out
                simp only [hd, Bool.or_true, Bool.bne_true, Bool.not_false, if_true] at hs
                exact ⟨by omega, by congr 1; omega, by unfold PushPop at hpl ⊢; rw [← hpl, hs], hmid.pop _⟩
    -- END
  case rest =>
    -- what is left of the two rows
    obtain ⟨k, hk⟩ : ∃ k, k = popLen gr x V k0 := ⟨_, rfl⟩
    rw [← hk] at hcut
    have hkk : k ≤ k0 := by rw [hk]; exact popLen_le gr x V k0
    obtain ⟨xs1, hx1⟩ : ∃ l, l = (D.map fun p => Value.int .i64 p.1).take k := ⟨_, rfl⟩
    obtain ⟨xs2, hx2⟩ : ∃ l, l = (D.map fun p => Value.int .i64 p.2).take k := ⟨_, rfl⟩
    have hS5 : St w wc pb (winCells wide at_ gr (.slice A1 k c1) (.slice A2 k c2)) A1 k c1 xs1 fp1 A2 k c2 xs2 fp2 fp := by
      have hk1 : Keep fp w wc := hcut.2.mono (fun g hg => .inl (by rw [List.mem_singleton.1 hg, HD.out.2.2.1]; simp))
      have n1 : ∀ g ∈ fp1, g ∉ [pb] := fun g hg hm => hS.p1 (by rw [← List.mem_singleton.1 hm]; exact hg)
      have n2 : ∀ g ∈ fp2, g ∉ [pb] := fun g hg hm => hS.p2 (by rw [← List.mem_singleton.1 hm]; exact hg)
      rw [hx1, hx2]
      exact ⟨hk1, hcut.1, (hS.o1.keepS hcut.2 n1).take hkk, (hS.o2.keepS hcut.2 n2).take hkk, hS.d12, hS.p1, hS.p2, hS.s1, hS.s2⟩
    have HK := Lib.hid hk
    have HX1 := Lib.hid hx1
    have HX2 := Lib.hid hx2
    clear hcut c3 hk hx1 hx2
    have hpS' := hpS
    go_upto_region 5 with fail
    refine wp_region_steps (by kernel_rfl) (by kernel_rfl) (Gφ pb k c1 c2 A1 A2 x at_) (GW w pb k c1 c2 A1 A2 xs1 xs2 fp1 fp2 fp wide at_ x gr) ⟨0, 0, A1, k, c1, xs1, fp1, A2, k, c2, xs2, fp2⟩ ?_ ?_ ?_
    · refine ⟨by simpa using hS5.drew, fun _ => ⟨rfl, rfl, rfl, rfl, rfl⟩, fun h => by simp at h, fun _ => ⟨rfl, rfl, rfl, rfl, rfl⟩, fun h => by simp at h, fun h => by simp at h, fun h => by simp at h⟩
    · simp only [AllFrom, Nat.zero_add, Nat.reduceAdd]
      refine ⟨?_, ?_, ?_, ?_, ?_, ?_, ?_, ?_, ?_, ?_, ?_, ?_, ?_, ?_, ?_, ?_, ?_, ?_, ?_, ?_, ?_, ?_, ?_, ?_, ?_, trivial⟩
      · refine step_pure fun s l a wr hl hd hW hF => ?_
        have e0 := hF.old 0 (by kernel_rfl)
        simp [Act.eval] at e0
        exact ⟨hW.other (by decide), .pointer (some ⟨pb, 0, none⟩), by go_simp, rfl⟩
      · refine step_pure fun s l a wr hl hd hW hF => ?_
        have e0 := hF.old 0 (by kernel_rfl)
        simp [Act.eval] at e0
        exact ⟨hW.other (by decide), .pointer (some ⟨pb, 0, none⟩), by go_simp, rfl⟩
      · refine step_pure fun s l a wr hl hd hW hF => ?_
        have e0 := hF.old 0 (by kernel_rfl)
        simp [Act.eval] at e0
        exact ⟨hW.other (by decide), .pointer (some ⟨pb, 0, none⟩), by go_simp, rfl⟩
      · refine step_pure fun s l a wr hl hd hW hF => ?_
        simp [Region.binds] at hd
        have e63 := hF.new 2 63 (by simp [hd]) rfl
        simp [Gφ, Act.eval] at e63
        exact ⟨hW.other (by decide), .pointer (some ⟨pb, 0, none⟩), by go_simp, rfl⟩
      · refine step_pure fun s l a wr hl hd hW hF => ?_
        simp [Region.binds] at hd
        have e64 := hF.new 3 64 (by simp [hd]) rfl
        simp [Gφ, Act.eval] at e64
        exact ⟨hW.other (by decide), .pointer (some ⟨pb, 3, none⟩), by go_simp, rfl⟩
      · refine step_pure fun s l a wr hl hd hW hF => ?_
        simp [Region.binds] at hd
        have e65 := hF.new 4 65 (by simp [hd]) rfl
        simp [Gφ, Act.eval] at e65
        have hc := cell_of_heap hW.st.cells 3
        have hx21 := hF.notYet _ 21 hl (by kernel_rfl)
        have hx24 := hF.notYet _ 24 hl (by kernel_rfl)
        simp [winCells, hx21, hx24] at hc
        exact ⟨hW.other (by decide), .slice A1 k c1, by go_simp, rfl⟩
      · refine step_pure fun s l a wr hl hd hW hF => ?_
        have e1 := hF.old 1 (by kernel_rfl)
        simp [Act.eval] at e1
        exact ⟨hW.other (by decide), .int .i64 x, by go_simp, rfl⟩
      · refine step_run fun s l a wr hl hd hW hF => ?_
        simp [Region.binds] at hd
        have e67 := hF.new 6 67 (by simp [hd]) rfl
        simp [Gφ, Act.eval] at e67
        refine ⟨.slice (some ⟨wr.heap.size, 0, none⟩) 1 1, wr.alloc (.cells #[.int .i64 x] 3), { s with g7 := wr.heap.size }, by go_simp, hW.build7, rfl, fun j u hj h => ?_⟩
        have hj7 : j ≠ 7 := by rintro rfl; rw [hl] at hj; cases hj
        unfold Gφ at h ⊢
        split at h <;> first | exact h | exact absurd rfl hj7
      · refine step_run fun s l a wr hl hd hW hF => ?_
        simp [Region.binds] at hd
        have e66 := hF.new 5 66 (by simp [hd]) rfl
        simp [Gφ, Act.eval] at e66
        have e68 := hF.new 7 68 (by simp [hd]) rfl
        simp [Gφ, Act.eval] at e68
        obtain ⟨o1, o2, o3, o4, o5⟩ := hW.o1 hl
        obtain ⟨b1, _⟩ := hW.b7 (by simp [hd])
        have hown := hW.st.o1
        rw [o1, o2, o3, o4] at hown
        obtain ⟨g, off, c', w', hr, h2, h3, h4, h5⟩ := run_append_A (P := Tryd.prog) 40 40 i0 _ 8 Tryd.underlying40 hi hz0 hz1 hz2 rfl hown ⟨s.g7, 0, none⟩ (.int .i64 x) b1 rfl (by omega) (by omega)
        refine ⟨.slice (some ⟨g, off, none⟩) (k + 1) c', w', _, ?_, hW.app8 (hF.notYet _ 21 hl (by kernel_rfl)) h2 h3 h5, rfl, fun j u hj h => ?_⟩
        · simp only [execOp, resolve, invoke, builtin, Sem.run_bind, Sem.run_pure, Result.andThen_ok, List.map_toArray, List.map_cons, List.map_nil, Act.eval, e66, e68, hr, Array.getD_eq_getD_getElem?]
        have hj7 : j ≠ 8 := by rintro rfl; rw [hl] at hj; cases hj
        unfold Gφ at h ⊢
        split at h <;> first | exact h | exact absurd rfl hj7
      · refine step_pure fun s l a wr hl hd hW hF => ?_
        have e0 := hF.old 0 (by kernel_rfl)
        simp [Act.eval] at e0
        exact ⟨hW.other (by decide), .pointer (some ⟨pb, 0, none⟩), by go_simp, rfl⟩
      · refine step_pure fun s l a wr hl hd hW hF => ?_
        simp [Region.binds] at hd
        have e70 := hF.new 9 70 (by simp [hd]) rfl
        simp [Gφ, Act.eval] at e70
        exact ⟨hW.other (by decide), .pointer (some ⟨pb, 0, none⟩), by go_simp, rfl⟩
      · refine step_pure fun s l a wr hl hd hW hF => ?_
        simp [Region.binds] at hd
        have e71 := hF.new 10 71 (by simp [hd]) rfl
        simp [Gφ, Act.eval] at e71
        exact ⟨hW.other (by decide), .pointer (some ⟨pb, 4, none⟩), by go_simp, rfl⟩
      · refine step_pure fun s l a wr hl hd hW hF => ?_
        simp [Region.binds] at hd
        have e72 := hF.new 11 72 (by simp [hd]) rfl
        simp [Gφ, Act.eval] at e72
        have hc := cell_of_heap hW.st.cells 4
        have hx21 := hF.notYet _ 21 hl (by kernel_rfl)
        have hx24 := hF.notYet _ 24 hl (by kernel_rfl)
        simp [winCells, hx21, hx24] at hc
        exact ⟨hW.other (by decide), .slice A2 k c2, by go_simp, rfl⟩
      · refine step_pure fun s l a wr hl hd hW hF => ?_
        have e0 := hF.old 0 (by kernel_rfl)
        simp [Act.eval] at e0
        exact ⟨hW.other (by decide), .pointer (some ⟨pb, 0, none⟩), by go_simp, rfl⟩
      · refine step_pure fun s l a wr hl hd hW hF => ?_
        simp [Region.binds] at hd
        have e74 := hF.new 13 74 (by simp [hd]) rfl
        simp [Gφ, Act.eval] at e74
        exact ⟨hW.other (by decide), .pointer (some ⟨pb, 0, none⟩), by go_simp, rfl⟩
      · refine step_pure fun s l a wr hl hd hW hF => ?_
        simp [Region.binds] at hd
        have e75 := hF.new 14 75 (by simp [hd]) rfl
        simp [Gφ, Act.eval] at e75
        exact ⟨hW.other (by decide), .pointer (some ⟨pb, 1, none⟩), by go_simp, rfl⟩
      · refine step_pure fun s l a wr hl hd hW hF => ?_
        simp [Region.binds] at hd
        have e76 := hF.new 15 76 (by simp [hd]) rfl
        simp [Gφ, Act.eval] at e76
        have hc := cell_of_heap hW.st.cells 1
        have hx21 := hF.notYet _ 21 hl (by kernel_rfl)
        have hx24 := hF.notYet _ 24 hl (by kernel_rfl)
        simp [winCells, hx21, hx24] at hc
        exact ⟨hW.other (by decide), .int .i64 at_, by go_simp, rfl⟩
      · refine step_run fun s l a wr hl hd hW hF => ?_
        simp [Region.binds] at hd
        have e77 := hF.new 16 77 (by simp [hd]) rfl
        simp [Gφ, Act.eval] at e77
        refine ⟨.slice (some ⟨wr.heap.size, 0, none⟩) 1 1, wr.alloc (.cells #[.int .i64 at_] 3), { s with g17 := wr.heap.size }, by go_simp, hW.build17, rfl, fun j u hj h => ?_⟩
        have hj7 : j ≠ 17 := by rintro rfl; rw [hl] at hj; cases hj
        unfold Gφ at h ⊢
        split at h <;> first | exact h | exact absurd rfl hj7
      · refine step_run fun s l a wr hl hd hW hF => ?_
        simp [Region.binds] at hd
        have e73 := hF.new 12 73 (by simp [hd]) rfl
        simp [Gφ, Act.eval] at e73
        have e78 := hF.new 17 78 (by simp [hd]) rfl
        simp [Gφ, Act.eval] at e78
        obtain ⟨o1, o2, o3, o4, o5⟩ := hW.o2 hl
        obtain ⟨b1, _⟩ := hW.b17 (by simp [hd])
        have hown := hW.st.o2
        rw [o1, o2, o3, o4] at hown
        obtain ⟨g, off, c', w', hr, h2, h3, h4, h5⟩ := run_append_A (P := Tryd.prog) 40 40 i0 _ 8 Tryd.underlying40 hi hz0 hz1 hz2 rfl hown ⟨s.g17, 0, none⟩ (.int .i64 at_) b1 rfl (by omega) (by omega)
        refine ⟨.slice (some ⟨g, off, none⟩) (k + 1) c', w', _, ?_, hW.app18 (hF.notYet _ 24 hl (by kernel_rfl)) h2 h3 h5, rfl, fun j u hj h => ?_⟩
        · simp only [execOp, resolve, invoke, builtin, Sem.run_bind, Sem.run_pure, Result.andThen_ok, List.map_toArray, List.map_cons, List.map_nil, Act.eval, e73, e78, hr, Array.getD_eq_getD_getElem?]
        have hj7 : j ≠ 18 := by rintro rfl; rw [hl] at hj; cases hj
        unfold Gφ at h ⊢
        split at h <;> first | exact h | exact absurd rfl hj7
      · refine step_pure fun s l a wr hl hd hW hF => ?_
        simp [Region.binds] at hd
        have e61 := hF.new 0 61 (by simp [hd]) rfl
        simp [Gφ, Act.eval] at e61
        exact ⟨hW.other (by decide), .pointer (some ⟨pb, 0, none⟩), by go_simp, rfl⟩
      · refine step_pure fun s l a wr hl hd hW hF => ?_
        simp [Region.binds] at hd
        have e80 := hF.new 19 80 (by simp [hd]) rfl
        simp [Gφ, Act.eval] at e80
        exact ⟨hW.other (by decide), .pointer (some ⟨pb, 3, none⟩), by go_simp, rfl⟩
      · refine step_store rfl fun s l a wr hl hd hW hF => ?_
        simp [Region.binds] at hd
        have e81 := hF.new 20 81 (by simp [hd]) rfl
        simp [Gφ, Act.eval] at e81
        have e69 := hF.new 8 69 (by simp [hd]) rfl
        simp [Gφ, Act.eval] at e69
        have hc := cell_of_heap hW.st.cells 3
        have hfz := frozen_of_heap hW.st.cells 3
        simp [winCells] at hc
        exact ⟨wr.setCell ⟨pb, 3, none⟩ (.slice s.A1 s.n1 s.c1), s, .skip, by go_simp, .inl rfl, hW.store hpS (.inl ⟨rfl, rfl, rfl⟩), fun _ _ _ h => h⟩
      · refine step_pure fun s l a wr hl hd hW hF => ?_
        simp [Region.binds] at hd
        have e62 := hF.new 1 62 (by simp [hd]) rfl
        simp [Gφ, Act.eval] at e62
        exact ⟨hW.other (by decide), .pointer (some ⟨pb, 0, none⟩), by go_simp, rfl⟩
      · refine step_pure fun s l a wr hl hd hW hF => ?_
        simp [Region.binds] at hd
        have e82 := hF.new 22 82 (by simp [hd]) rfl
        simp [Gφ, Act.eval] at e82
        exact ⟨hW.other (by decide), .pointer (some ⟨pb, 4, none⟩), by go_simp, rfl⟩
      · refine step_store rfl fun s l a wr hl hd hW hF => ?_
        simp [Region.binds] at hd
        have e83 := hF.new 23 83 (by simp [hd]) rfl
        simp [Gφ, Act.eval] at e83
        have e79 := hF.new 18 79 (by simp [hd]) rfl
        simp [Gφ, Act.eval] at e79
        have hc := cell_of_heap hW.st.cells 4
        have hfz := frozen_of_heap hW.st.cells 4
        simp [winCells] at hc
        exact ⟨wr.setCell ⟨pb, 4, none⟩ (.slice s.A2 s.n2 s.c2), s, .skip, by go_simp, .inl rfl, hW.store hpS (.inr ⟨rfl, rfl, rfl⟩), fun _ _ _ h => h⟩
    · intro s a w5 hW hF
      obtain ⟨f, hf, rfl⟩ := hF.lit
      have l8 := hW.p1 rfl
      have l18 := hW.p2 rfl
      have hS6 := hW.st
      simp only [List.length_cons, List.length_nil, Nat.reduceAdd, Nat.reduceLT, decide_true, if_true] at hS6
      rw [l8.1, l8.2, l18.1, l18.2] at hS6
      clear hf hW hF hS5
      simp only [List.filterMap, List.foldl, List.setIfInBounds_toArray, List.set_cons_succ, List.set_cons_zero]
      have hown1 := hS6.o1
      have hown2 := hS6.o2
      obtain ⟨g1, o1, hA1, hf1, hg1, hat1, hfz1⟩ := hown1.some_ (by omega)
      obtain ⟨g2, o2, hA2, hf2, hg2, hat2, hfz2⟩ := hown2.some_ (by omega)
      rw [hA1, hA2] at hS6
      generalize s.c1 = d1 at hS6
      generalize s.c2 = d2 at hS6
      generalize s.fp1 = q1 at *
      generalize s.fp2 = q2 at *
      -- the lists behind the append, as one list of pairs
      obtain ⟨D1, hD1⟩ : ∃ D1, D1 = D.take k ++ [(x, at_)] := ⟨_, rfl⟩
      have hlen : D1.length = k + 1 := by
        have := HD.out.1
        simp only [hD1, List.length_append, List.length_take, List.length_singleton]
        omega
      have hy1 : xs1 ++ [Value.int .i64 x] = D1.map fun p => Value.int .i64 p.1 := by rw [HX1.out, hD1]; simp
      have hy2 : xs2 ++ [Value.int .i64 at_] = D1.map fun p => Value.int .i64 p.2 := by rw [HX2.out, hD1]; simp
      clear l8 l18
      have hpd : pushD wide at_ gr D x = if (D1.headD (0, 0)).2 ≤ at_ - wide then D1.tail else D1 := by
        unfold pushD
        rw [hD1, HK.out, HD.out.1, HD.out.2.1]
      obtain ⟨⟨v0, t0⟩, rest, rfl⟩ : ∃ p r, D1 = p :: r := by
        cases D1 with
        | nil => simp at hlen
        | cons p r => exact ⟨p, r, rfl⟩
      have hPD := Lib.hid hpd
      have hHD1 := Lib.hid hD1
      have a1 : w5.cell? ⟨g1, o1, none⟩ = some (.int .i64 v0) := by have := hat1 0 (.int .i64 v0) (by rw [hy1]; simp); simpa using this
      have a2 : w5.cell? ⟨g2, o2, none⟩ = some (.int .i64 t0) := by have := hat2 0 (.int .i64 t0) (by rw [hy2]; simp); simpa using this
      have b0 := cell_of_heap hS6.cells 0
      have b1 := cell_of_heap hS6.cells 1
      have b3 := cell_of_heap hS6.cells 3
      have b4 := cell_of_heap hS6.cells 4
      have z1 := frozen_of_heap hS6.cells 1
      have z3 := frozen_of_heap hS6.cells 3
      have z4 := frozen_of_heap hS6.cells 4
      simp [winCells] at b0 b1 b3 b4
      have hpg1 : pb ≠ g1 := by rintro rfl; exact hS6.p1 (by rw [hf1]; simp)
      have hpg2 : pb ≠ g2 := by rintro rfl; exact hS6.p2 (by rw [hf2]; simp)
      have hpg1' := hpg1.symm
      have hpg2' := hpg2.symm
      have HS6 := Lib.hid hS6
      have HY := Lib.hid (And.intro hy1 hy2)
      have HF := Lib.hid (And.intro hf1 hf2)
      have hk9 : k ≤ 1000000000 := by omega
      have hn1 := hS6.o1.ge
      have hn2 := hS6.o2.ge
      have HO1 := Lib.hid hat1
      clear hat1 hat2 hfz1 hfz2 hf1 hf2 hy1 hy2 hS6 hown1 hown2 hA1 hA2 hpd hD1 hi hz0 hz1 hz2 hS hpS'
      have hlen' : rest.length = k := by simpa using hlen
      have HL := Lib.hid hlen'
      clear hlen hlen'
      by_cases hpop : t0 ≤ at_ - wide
      · -- the first one is too old
        obtain ⟨⟨v1, t1⟩, rest', rfl⟩ : ∃ p r, rest = p :: r := by
          cases rest with
          | nil =>
            exfalso
            have h1 := hHD1.out
            have hk0 : k = 0 := by have := HL.out; simpa using this.symm
            rw [hk0] at h1
            simp at h1
            omega
          | cons p r => exact ⟨p, r, rfl⟩
        have a11 : w5.cell? ⟨g1, o1 + 1, none⟩ = some (.int .i64 v1) := HO1.out 1 (.int .i64 v1) (by rw [HY.out.1]; simp)
        have hk1 : 1 ≤ k := by have := HL.out; simp at this; omega
        have hk1' : (1 : Int) ≤ (k : Int) := by omega
        have hd1 : 2 ≤ d1 := by omega
        have hd2 : 2 ≤ d2 := by omega
        go_upto_region 6 with fail
        go_quiet (fail)
        go_wp2_with fail
        go_region
        go_wp2_with fail
        go_ret
        have hS7 := ((HS6.out.drewN (nq + 1)).popFront (by omega) hpS rfl).store hpS 1 (.int .i64 (at_ + 1))
        rw [HY.out.1, HY.out.2] at hS7
        have hp : pushD wide at_ gr D x = (v1, t1) :: rest' := by rw [hPD.out]; simp [hpop]
        refine push_end (A1 := some ⟨g1, o1 + 1, none⟩) (n := k) (c1 := d1 - 1) (q1 := q1) (A2 := some ⟨g2, o2 + 1, none⟩) (c2 := d2 - 1) (q2 := q2) hp (by simpa [winCells] using hS7) (by have := HL.out; simpa using this) ?_
        rw [hp]; rfl
      · have hpop' : at_ - wide < t0 := by omega
        go_upto_region 6 with fail
        go_quiet (fail)
        go_wp2_with fail
        go_ret
        have hS7 := (HS6.out.drewN nq).store hpS 1 (.int .i64 (at_ + 1))
        rw [HY.out.1, HY.out.2] at hS7
        have hp : pushD wide at_ gr D x = (v0, t0) :: rest := by rw [hPD.out, if_neg (by simpa using hpop)]
        refine push_end (A1 := some ⟨g1, o1, none⟩) (n := k + 1) (c1 := d1) (q1 := q1) (A2 := some ⟨g2, o2, none⟩) (c2 := d2) (q2 := q2) hp (by simpa [winCells] using hS7) (by simp [HL.out]) ?_
        rw [hp]; rfl
end Go.Proofs.YtalcinepeofmcaaDoor
/- Lists of numbers, and of truths, as values. No program is named here. -/
namespace Go.Proofs.YtalcinepeofmcaaDoor
open Go

def ints (l : List Int) : List Value := l.map (Value.int .i64)
theorem ints_get {l : List Int} {k : Nat} (h : k < l.length) : (ints l)[k]? = some (.int .i64 (l.getD k 0)) := by simp [ints, h]
def bools (l : List Bool) : List Value := l.map Value.bool
theorem bools_get {l : List Bool} {k : Nat} (h : k < l.length) : (bools l)[k]? = some (.bool (l.getD k false)) := by simp [bools, h]
end Go.Proofs.YtalcinepeofmcaaDoor
/- restrict.each over a new window's push: the least (or greatest) of the last numbers, at each number. -/
namespace Go.Proofs.YtalcinepeofmcaaDoor
open Go Go.RowKit Sp

/-- what each(days, w.push) leaves -/
def EachPost (w : World) (pb : Nat) (out : List Int) (e : Ending) (w' : World) : Prop :=
  ∃ A c q, e = .returned (.slice A out.length c) ∧ OwnA w' 3 A out.length c (ints out) q ∧ (∀ g ∈ q, w.heap.size ≤ g) ∧ Keep [pb] w w'

/-- between the rounds -/
structure EachInv (w wr : World) (pb : Nat) (wide : Int) (gr : Bool) (xs : List Int) (k : Nat) (A : Option Addr) (c : Nat) (q fp : List Nat) : Prop where
  own : OwnA wr 3 A k c (ints (slideN wide gr xs k)) q
  win : Win wr pb wide (k : Int) gr (dq wide gr xs k) fp
  keep : Keep [pb] w wr
  qn : ∀ g ∈ q, w.heap.size ≤ g
  fn : ∀ g ∈ fp, g = pb ∨ w.heap.size ≤ g
  dis : ∀ g ∈ q, g ∉ fp

theorem Win.lt {w : World} {pb : Nat} {wide at_ : Int} {gr : Bool} {D : List (Int × Int)} {fp : List Nat} (h : Win w pb wide at_ gr D fp) : ∀ g ∈ fp, g < w.heap.size := by
  obtain ⟨A1, c1, A2, c2, fp1, fp2, rfl, hS⟩ := h
  intro g hg
  rcases List.mem_cons.1 hg with rfl | hg
  · exact heap_lt hS.cells
  · rcases List.mem_append.1 hg with hg | hg
    · exact hS.o1.lt g hg
    · exact hS.o2.lt g hg

theorem Win.keepS {w w' : World} {pb : Nat} {wide at_ : Int} {gr : Bool} {D : List (Int × Int)} {fp S : List Nat} (h : Win w pb wide at_ gr D fp) (hk : Keep S w w') (hd : ∀ g ∈ fp, g ∉ S) : Win w' pb wide at_ gr D fp := by
  have hlt := h.lt
  obtain ⟨A1, c1, A2, c2, fp1, fp2, hfp, hS⟩ := h
  refine ⟨A1, c1, A2, c2, fp1, fp2, hfp, Keep.refl _ _, ?_, hS.o1.keepS hk fun g hg => hd g (by rw [hfp]; simp [hg]), hS.o2.keepS hk fun g hg => hd g (by rw [hfp]; simp [hg]), hS.d12, hS.p1, hS.p2, fun g hg => .inl (by rw [hfp]; simp [hg]), fun g hg => .inl (by rw [hfp]; simp [hg])⟩
  exact (hk.block pb (heap_lt hS.cells) (hd pb (by rw [hfp]; simp))).trans hS.cells

theorem EachInv.step {w wr w1 w2 : World} {pb : Nat} {wide : Int} {gr : Bool} {xs : List Int} {k : Nat} {A : Option Addr} {c : Nat} {q fp fp1 : List Nat} (h : EachInv w wr pb wide gr xs k A c q fp)
    (hw : Win w1 pb wide ((k : Int) + 1) gr (dq wide gr xs (k + 1)) fp1) (hk : Keep fp wr w1) (hf : ∀ g ∈ fp1, g ∈ fp ∨ wr.heap.size ≤ g) {o : Obj} {g off c' : Nat}
    (ho : OwnA w2 3 (some ⟨g, off, none⟩) (k + 1) c' (ints (slideN wide gr xs k) ++ [.int .i64 (headV (dq wide gr xs (k + 1)))]) [g]) (hg : g ∈ q ∨ (w1.alloc o).heap.size = g) (hk2 : Keep q (w1.alloc o) w2) :
    EachInv w w2 pb wide gr xs (k + 1) (some ⟨g, off, none⟩) c' [g] fp1 := by
  have s1 := h.keep.size
  have s2 := hk.size
  have ha := hk2.size
  simp only [World.size_alloc] at hg ha
  have hq1 : ∀ x ∈ q, x ∉ fp1 := fun x hx hm => by
    rcases hf x hm with h1 | h1
    · exact h.dis x hx h1
    · have := h.own.lt x hx; omega
  refine ⟨?_, ?_, ?_, ?_, ?_, ?_⟩
  · rw [slideN_succ]
    simpa [ints] using ho
  · have hw1 : Win (w1.alloc o) pb wide ((k : Int) + 1) gr (dq wide gr xs (k + 1)) fp1 := hw.keepS ((Keep.refl [] w1).alloc o) (by simp)
    exact hw1.keepS hk2 (fun x hx hm => hq1 x hm hx)
  · have h1 : Keep [pb] w w1 := h.keep.trans hk (fun x hx => by
      rcases h.fn x hx with rfl | h2
      · exact .inl (by simp)
      · exact .inr h2)
    exact (h1.alloc o).trans hk2 (fun x hx => .inr (h.qn x hx))
  · intro x hx
    rw [List.mem_singleton.1 hx]
    rcases hg with hg | hg
    · exact h.qn _ hg
    · omega
  · intro x hx
    rcases hf x hx with h1 | h1
    · exact h.fn x h1
    · right; omega
  · intro x hx hm
    rw [List.mem_singleton.1 hx] at hm
    rcases hg with hg | hg
    · exact hq1 _ hg hm
    · have := hw.lt _ hm; omega

set_option maxHeartbeats 1000000 in
theorem each_any (pb : Nat) (wide : Int) (gr : Bool) (A : Option Addr) (c : Nat) (xs : List Int) (w : World) (hwin : Win w pb wide 0 gr [] [pb]) (hw1 : 1 ≤ wide) (hw2 : wide ≤ 1000)
    (hr : Rd w 1 A xs.length (ints xs)) (hA : 0 < xs.length → ∀ b off, A = some ⟨b, off, none⟩ → b ≠ pb) (hl : xs.length ≤ 1000000) :
    Calls Tryd.prog 81 #[.slice A xs.length c, .func (.func 82) #[.pointer (some ⟨pb, 0, none⟩)] #[]] w (EachPost w pb (slide wide gr xs)) := by
  obtain ⟨i0, hi, hz0, hz1, hz2⟩ := info_parts info_int
  go_enter Tryd.func81, Tryd.ntmps81
  go_wp2_with fail
  go_loopw [5, 10] (fun v i wr => ∃ (k : Nat) (Ao : Option Addr) (co : Nat) (q f : List Nat), k ≤ xs.length ∧ i = .int .i64 k ∧ v = .slice Ao k co ∧ EachInv w wr pb wide gr xs k Ao co q f)
    (fun _ i _ => xs.length - (intOf i).toNat)
  case atStart => exact ⟨0, none, 0, [], [pb], Nat.zero_le _, rfl, rfl, ⟨OwnA.nil _ _, hwin, Keep.refl _ _, by simp, by simp, by simp⟩⟩
  case round =>
    obtain ⟨k, Ao, co, q, f, hk, rfl, rfl, hinv⟩ := hrel
    by_cases hlt : k < xs.length
    · obtain ⟨b, off, rfl, hb, hc⟩ := hr.2 (by omega)
      have hbp := hA (by omega) b off rfl
      have c0 : wr.cell? ⟨b, off + k, none⟩ = some (.int .i64 (xs.getD k 0)) := by
        rw [← hc k (.int .i64 (xs.getD k 0)) (by simp [ints, hlt])]
        exact World.cell?_of_block (w := w) (hinv.keep.block b hb (by simpa using hbp))
      obtain ⟨x, hx⟩ : ∃ x, x = xs.getD k 0 := ⟨_, rfl⟩
      rw [← hx] at c0
      have HX := Lib.hid hx
      have HI := Lib.hid hinv
      have hdl := dq_length wide gr xs k
      clear hc hx hbp hA hwin hinv hr
      go_wp2_with (first
        | (go_at_call 82; refine (push_any pb (dq wide gr xs k) f wide k x gr wr HI.out.win hw1 hw2 (by omega) (by omega) (by omega)).mono ?_; rintro e w1 ⟨f1, rfl, hwin1, hk1, hf1⟩; have HP := Lib.hid (And.intro hwin1 (And.intro hk1 hf1)); clear hwin1 hk1 hf1)
        | (at_builtin
           refine wpList_append_A rfl (.tmp 14) (.tmp 18) 40 rfl i0 _ 8 Tryd.underlying40 hi hz0 hz1 hz2 rfl (A := Ao) (n := k) (c := co) (xs := ints (slideN wide gr xs k)) (fp := q) (by simp [Act.eval]) _ (by simp [Act.eval]; rfl) (.int .i64 (headV (pushD wide k gr (dq wide gr xs k) x))) ((HI.out.own.keepS HP.out.2.1 HI.out.dis).alloc _) (by simp) rfl (by omega) (by omega) ?_
           intro g off' c' w2 h1 h2 h3 h4
           have HQ := Lib.hid (And.intro h1 (And.intro h2 h4))
           clear h1 h2 h3 h4))
      go_roundw
      case rel =>
        obtain ⟨h1, h2, h4⟩ := HQ.out
        obtain ⟨hwin1, hk1, hf1⟩ := HP.out
        rw [HX.out] at h1 hwin1
        exact ⟨k + 1, _, _, _, _, by omega, by go_num, rfl, HI.out.step hwin1 hk1 hf1 h1 h2 h4⟩
      case measure => simp [intOf]; omega
    · obtain rfl : k = xs.length := by omega
      go_wp2_with fail
      go_ret
      have hs : (slide wide gr xs).length = xs.length := by simp [slide, slideN]
      exact ⟨Ao, co, q, by rw [hs]; rfl, by rw [hs]; exact hinv.own, hinv.qn, hinv.keep⟩
end Go.Proofs.YtalcinepeofmcaaDoor
