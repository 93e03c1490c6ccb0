/- A region that appends one element to each of two lists, in any order: what it keeps. No program is named here. -/
import Derived.Test.YtbgnkljjgfcngaaGreatRSp0
import Derived.Test.YtbgnkljjgfcngaaGreatRSp2
set_option linter.unusedVariables false
set_option linter.unusedSimpArgs false
namespace Go.Proofs.YtbgnkljjgfcngaaGreat
open Go Go.RowKit

/-- the two lists as they are, and the blocks of the elements that are to be appended -/
structure Gh2 where
  A1 : Option Addr
  n1 : Nat
  c1 : Nat
  xs1 : List Value
  f1 : List Nat
  b1 : Nat
  A2 : Option Addr
  n2 : Nat
  c2 : Nat
  xs2 : List Value
  f2 : List Nat
  b2 : Nat

/-- i1, i2: the operations that make the elements' blocks; j1, j2: those that append -/
structure GW2 (i1 j1 i2 j2 : Nat) (W0 : World) (e1 e2 : TypeId) (u1 u2 : Value) (A1 : Option Addr) (n1 c1 : Nat) (xs1 : List Value) (f1 : List Nat) (A2 : Option Addr) (n2 c2 : Nat) (xs2 : List Value) (f2 : List Nat) (s : Gh2) (l : Nat → Bool) (w : World) : Prop where
  o1 : OwnA w e1 s.A1 s.n1 s.c1 s.xs1 s.f1
  o2 : OwnA w e2 s.A2 s.n2 s.c2 s.xs2 s.f2
  dis : ∀ g ∈ s.f1, g ∉ s.f2
  kp : Keep (f1 ++ f2) W0 w
  in1 : ∀ g ∈ s.f1, g ∈ f1 ∨ W0.heap.size ≤ g
  in2 : ∀ g ∈ s.f2, g ∈ f2 ∨ W0.heap.size ≤ g
  a1 : l j1 = false → s.A1 = A1 ∧ s.n1 = n1 ∧ s.c1 = c1 ∧ s.xs1 = xs1
  z1 : l j1 = true → s.n1 = n1 + 1 ∧ s.xs1 = xs1 ++ [u1]
  a2 : l j2 = false → s.A2 = A2 ∧ s.n2 = n2 ∧ s.c2 = c2 ∧ s.xs2 = xs2
  z2 : l j2 = true → s.n2 = n2 + 1 ∧ s.xs2 = xs2 ++ [u2]
  t1 : l i1 = true → w.cell? ⟨s.b1, 0, none⟩ = some u1 ∧ s.b1 ∉ s.f1 ∧ s.b1 ∉ s.f2 ∧ s.b1 < w.heap.size
  t2 : l i2 = true → w.cell? ⟨s.b2, 0, none⟩ = some u2 ∧ s.b2 ∉ s.f1 ∧ s.b2 ∉ s.f2 ∧ s.b2 < w.heap.size

section
variable {i1 j1 i2 j2 : Nat} {W0 : World} {e1 e2 : TypeId} {u1 u2 : Value} {A1 : Option Addr} {n1 c1 : Nat} {xs1 : List Value} {f1 : List Nat} {A2 : Option Addr} {n2 c2 : Nat} {xs2 : List Value} {f2 : List Nat} {s : Gh2} {l : Nat → Bool} {w : World}
theorem GW2.start (o1 : OwnA W0 e1 A1 n1 c1 xs1 f1) (o2 : OwnA W0 e2 A2 n2 c2 xs2 f2) (hd : ∀ g ∈ f1, g ∉ f2) : GW2 i1 j1 i2 j2 W0 e1 e2 u1 u2 A1 n1 c1 xs1 f1 A2 n2 c2 xs2 f2 ⟨A1, n1, c1, xs1, f1, 0, A2, n2, c2, xs2, f2, 0⟩ (fun _ => false) W0.drew :=
  ⟨by simpa using o1.keepS ((Keep.refl [] W0).drew) (by simp), by simpa using o2.keepS ((Keep.refl [] W0).drew) (by simp), hd, (Keep.refl _ _).drew, fun g hg => .inl hg, fun g hg => .inl hg, fun _ => ⟨rfl, rfl, rfl, rfl⟩, (fun h => by cases h), fun _ => ⟨rfl, rfl, rfl, rfl⟩, (fun h => by cases h), (fun h => by cases h), (fun h => by cases h)⟩
/-- an operation that is none of the four -/
theorem GW2.other (h : GW2 i1 j1 i2 j2 W0 e1 e2 u1 u2 A1 n1 c1 xs1 f1 A2 n2 c2 xs2 f2 s l w) {i : Nat} (hi : i1 ≠ i ∧ j1 ≠ i ∧ i2 ≠ i ∧ j2 ≠ i) : GW2 i1 j1 i2 j2 W0 e1 e2 u1 u2 A1 n1 c1 xs1 f1 A2 n2 c2 xs2 f2 s (upd l i) w := by
  obtain ⟨h1, h2, h3, h4⟩ := hi
  exact ⟨h.o1, h.o2, h.dis, h.kp, h.in1, h.in2, by simpa [upd, h2] using h.a1, by simpa [upd, h2] using h.z1, by simpa [upd, h4] using h.a2, by simpa [upd, h4] using h.z2, by simpa [upd, h1] using h.t1, by simpa [upd, h3] using h.t2⟩
theorem cell_new_one' (w : World) (u : Value) (t : TypeId) : (w.alloc (.cells #[u] t)).cell? ⟨w.heap.size, 0, none⟩ = some u := cell_new_one w u t
theorem GW2.build1 (h : GW2 i1 j1 i2 j2 W0 e1 e2 u1 u2 A1 n1 c1 xs1 f1 A2 n2 c2 xs2 f2 s l w) (t : TypeId) (hi : j1 ≠ i1 ∧ i2 ≠ i1 ∧ j2 ≠ i1) :
    GW2 i1 j1 i2 j2 W0 e1 e2 u1 u2 A1 n1 c1 xs1 f1 A2 n2 c2 xs2 f2 { s with b1 := w.heap.size } (upd l i1) (w.alloc (.cells #[u1] t)) := by
  obtain ⟨h1, h2, h3⟩ := hi
  have hb : Below w.heap.size w (w.alloc (.cells #[u1] t)) := (Below.refl _ _).alloc (Nat.le_refl _) _
  refine ⟨h.o1.alloc _, h.o2.alloc _, h.dis, h.kp.alloc _, h.in1, h.in2, by simpa [upd, h1] using h.a1, by simpa [upd, h1] using h.z1, by simpa [upd, h3] using h.a2, by simpa [upd, h3] using h.z2, fun _ => ⟨cell_new_one _ _ _, ?_, ?_, by simp⟩, fun h5 => ?_⟩
  · intro hm; have := h.o1.lt _ hm; simp at this
  · intro hm; have := h.o2.lt _ hm; simp at this
  · obtain ⟨k1, k2, k3, k4⟩ := h.t2 (by simpa [upd, h2] using h5)
    exact ⟨(hb.cell (p := ⟨s.b2, 0, none⟩) k4).trans k1, k2, k3, by simp; omega⟩
theorem GW2.build2 (h : GW2 i1 j1 i2 j2 W0 e1 e2 u1 u2 A1 n1 c1 xs1 f1 A2 n2 c2 xs2 f2 s l w) (t : TypeId) (hi : j1 ≠ i2 ∧ i1 ≠ i2 ∧ j2 ≠ i2) :
    GW2 i1 j1 i2 j2 W0 e1 e2 u1 u2 A1 n1 c1 xs1 f1 A2 n2 c2 xs2 f2 { s with b2 := w.heap.size } (upd l i2) (w.alloc (.cells #[u2] t)) := by
  obtain ⟨h1, h2, h3⟩ := hi
  have hb : Below w.heap.size w (w.alloc (.cells #[u2] t)) := (Below.refl _ _).alloc (Nat.le_refl _) _
  refine ⟨h.o1.alloc _, h.o2.alloc _, h.dis, h.kp.alloc _, h.in1, h.in2, by simpa [upd, h1] using h.a1, by simpa [upd, h1] using h.z1, by simpa [upd, h3] using h.a2, by simpa [upd, h3] using h.z2, fun h5 => ?_, fun _ => ⟨cell_new_one _ _ _, ?_, ?_, by simp⟩⟩
  · obtain ⟨k1, k2, k3, k4⟩ := h.t1 (by simpa [upd, h2] using h5)
    exact ⟨(hb.cell (p := ⟨s.b1, 0, none⟩) k4).trans k1, k2, k3, by simp; omega⟩
  · intro hm; have := h.o1.lt _ hm; simp at this
  · intro hm; have := h.o2.lt _ hm; simp at this
theorem GW2.app1 (h : GW2 i1 j1 i2 j2 W0 e1 e2 u1 u2 A1 n1 c1 xs1 f1 A2 n2 c2 xs2 f2 s l w) (hl : l j1 = false) (hi : i1 ≠ j1 ∧ i2 ≠ j1 ∧ j2 ≠ j1) {g off c' : Nat} {w' : World}
    (ho : OwnA w' e1 (some ⟨g, off, none⟩) (n1 + 1) c' (xs1 ++ [u1]) [g]) (hg : g ∈ s.f1 ∨ w.heap.size = g) (hk : Keep s.f1 w w') :
    GW2 i1 j1 i2 j2 W0 e1 e2 u1 u2 A1 n1 c1 xs1 f1 A2 n2 c2 xs2 f2 { s with A1 := some ⟨g, off, none⟩, n1 := n1 + 1, c1 := c', xs1 := xs1 ++ [u1], f1 := [g] } (upd l j1) w' := by
  obtain ⟨h1, h2, h3⟩ := hi
  have hs := h.kp.size
  have hin : g ∈ f1 ∨ W0.heap.size ≤ g := by
    rcases hg with hg | hg
    · exact h.in1 g hg
    · exact .inr (by omega)
  have hd2 : ∀ x ∈ s.f2, x ∉ s.f1 := fun x hx hm => h.dis x hm hx
  refine ⟨ho, h.o2.keepS hk hd2, ?_, h.kp.trans hk (fun x hx => ?_), ?_, h.in2, fun h5 => by simp [upd] at h5, fun _ => ⟨rfl, rfl⟩, by simpa [upd, h3] using h.a2, by simpa [upd, h3] using h.z2, fun h5 => ?_, fun h5 => ?_⟩
  · intro x hx hm
    rw [List.mem_singleton.1 hx] at hm
    rcases hg with hg | hg
    · exact h.dis g hg hm
    · have := h.o2.lt _ hm; omega
  · rcases h.in1 x hx with h5 | h5
    · exact .inl (List.mem_append.2 (.inl h5))
    · exact .inr h5
  · intro x hx; rw [List.mem_singleton.1 hx]; exact hin
  · obtain ⟨k1, k2, k3, k4⟩ := h.t1 (by simpa [upd, h1] using h5)
    refine ⟨hk.cell k1 k2, ?_, k3, Nat.lt_of_lt_of_le k4 hk.size⟩
    intro hm
    have e : s.b1 = g := List.mem_singleton.1 hm
    rcases hg with hg | hg
    · exact k2 (by rw [e]; exact hg)
    · omega
  · obtain ⟨k1, k2, k3, k4⟩ := h.t2 (by simpa [upd, h2] using h5)
    refine ⟨hk.cell k1 k2, ?_, k3, Nat.lt_of_lt_of_le k4 hk.size⟩
    intro hm
    have e : s.b2 = g := List.mem_singleton.1 hm
    rcases hg with hg | hg
    · exact k2 (by rw [e]; exact hg)
    · omega
theorem GW2.app2 (h : GW2 i1 j1 i2 j2 W0 e1 e2 u1 u2 A1 n1 c1 xs1 f1 A2 n2 c2 xs2 f2 s l w) (hl : l j2 = false) (hi : i1 ≠ j2 ∧ i2 ≠ j2 ∧ j1 ≠ j2) {g off c' : Nat} {w' : World}
    (ho : OwnA w' e2 (some ⟨g, off, none⟩) (n2 + 1) c' (xs2 ++ [u2]) [g]) (hg : g ∈ s.f2 ∨ w.heap.size = g) (hk : Keep s.f2 w w') :
    GW2 i1 j1 i2 j2 W0 e1 e2 u1 u2 A1 n1 c1 xs1 f1 A2 n2 c2 xs2 f2 { s with A2 := some ⟨g, off, none⟩, n2 := n2 + 1, c2 := c', xs2 := xs2 ++ [u2], f2 := [g] } (upd l j2) w' := by
  obtain ⟨h1, h2, h3⟩ := hi
  have hs := h.kp.size
  have hin : g ∈ f2 ∨ W0.heap.size ≤ g := by
    rcases hg with hg | hg
    · exact h.in2 g hg
    · exact .inr (by omega)
  refine ⟨h.o1.keepS hk h.dis, ho, ?_, h.kp.trans hk (fun x hx => ?_), h.in1, ?_, by simpa [upd, h3] using h.a1, by simpa [upd, h3] using h.z1, fun h5 => by simp [upd] at h5, fun _ => ⟨rfl, rfl⟩, fun h5 => ?_, fun h5 => ?_⟩
  · intro x hx hm
    have e : x = g := List.mem_singleton.1 hm
    rcases hg with hg | hg
    · exact h.dis x hx (by rw [e]; exact hg)
    · have := h.o1.lt _ hx; omega
  · rcases h.in2 x hx with h5 | h5
    · exact .inl (List.mem_append.2 (.inr h5))
    · exact .inr h5
  · intro x hx; rw [List.mem_singleton.1 hx]; exact hin
  · obtain ⟨k1, k2, k3, k4⟩ := h.t1 (by simpa [upd, h1] using h5)
    refine ⟨hk.cell k1 k3, k2, ?_, Nat.lt_of_lt_of_le k4 hk.size⟩
    intro hm
    have e : s.b1 = g := List.mem_singleton.1 hm
    rcases hg with hg | hg
    · exact k3 (by rw [e]; exact hg)
    · omega
  · obtain ⟨k1, k2, k3, k4⟩ := h.t2 (by simpa [upd, h2] using h5)
    refine ⟨hk.cell k1 k3, k2, ?_, Nat.lt_of_lt_of_le k4 hk.size⟩
    intro hm
    have e : s.b2 = g := List.mem_singleton.1 hm
    rcases hg with hg | hg
    · exact k3 (by rw [e]; exact hg)
    · omega
end
end Go.Proofs.YtbgnkljjgfcngaaGreat
