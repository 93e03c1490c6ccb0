/- A region that appends one element to each of two lists, in any order: what it keeps. No program is named here. -/
import Derived.Test.YtalcinepeofmcaaDoorRSp0
import Derived.Test.YtalcinepeofmcaaDoorProg
import Derived.Laws.StructEq
set_option linter.unusedVariables false
set_option linter.unusedSimpArgs false
namespace Go.Proofs.YtalcinepeofmcaaDoor
open Go Go.RowKit

/-- the two lists as they are, and the blocks of the elements that are to be appended -/
structure Gh2 where
  A1 : Option Addr
  n1 : Nat
  c1 : Nat
  xs1 : List Value
  f1 : List Nat
  b1 : Nat
  A2 : Option Addr
  n2 : Nat
  c2 : Nat
  xs2 : List Value
  f2 : List Nat
  b2 : Nat

/-- i1, i2: the operations that make the elements' blocks; j1, j2: those that append -/
structure GW2 (i1 j1 i2 j2 : Nat) (W0 : World) (e1 e2 : TypeId) (u1 u2 : Value) (A1 : Option Addr) (n1 c1 : Nat) (xs1 : List Value) (f1 : List Nat) (A2 : Option Addr) (n2 c2 : Nat) (xs2 : List Value) (f2 : List Nat) (s : Gh2) (l : Nat → Bool) (w : World) : Prop where
  o1 : OwnA w e1 s.A1 s.n1 s.c1 s.xs1 s.f1
  o2 : OwnA w e2 s.A2 s.n2 s.c2 s.xs2 s.f2
  dis : ∀ g ∈ s.f1, g ∉ s.f2
  kp : Keep (f1 ++ f2) W0 w
  in1 : ∀ g ∈ s.f1, g ∈ f1 ∨ W0.heap.size ≤ g
  in2 : ∀ g ∈ s.f2, g ∈ f2 ∨ W0.heap.size ≤ g
  a1 : l j1 = false → s.A1 = A1 ∧ s.n1 = n1 ∧ s.c1 = c1 ∧ s.xs1 = xs1
  z1 : l j1 = true → s.n1 = n1 + 1 ∧ s.xs1 = xs1 ++ [u1]
  a2 : l j2 = false → s.A2 = A2 ∧ s.n2 = n2 ∧ s.c2 = c2 ∧ s.xs2 = xs2
  z2 : l j2 = true → s.n2 = n2 + 1 ∧ s.xs2 = xs2 ++ [u2]
  t1 : l i1 = true → w.cell? ⟨s.b1, 0, none⟩ = some u1 ∧ s.b1 ∉ s.f1 ∧ s.b1 ∉ s.f2 ∧ s.b1 < w.heap.size
  t2 : l i2 = true → w.cell? ⟨s.b2, 0, none⟩ = some u2 ∧ s.b2 ∉ s.f1 ∧ s.b2 ∉ s.f2 ∧ s.b2 < w.heap.size

section
variable {i1 j1 i2 j2 : Nat} {W0 : World} {e1 e2 : TypeId} {u1 u2 : Value} {A1 : Option Addr} {n1 c1 : Nat} {xs1 : List Value} {f1 : List Nat} {A2 : Option Addr} {n2 c2 : Nat} {xs2 : List Value} {f2 : List Nat} {s : Gh2} {l : Nat → Bool} {w : World}
theorem GW2.start (o1 : OwnA W0 e1 A1 n1 c1 xs1 f1) (o2 : OwnA W0 e2 A2 n2 c2 xs2 f2) (hd : ∀ g ∈ f1, g ∉ f2) : GW2 i1 j1 i2 j2 W0 e1 e2 u1 u2 A1 n1 c1 xs1 f1 A2 n2 c2 xs2 f2 ⟨A1, n1, c1, xs1, f1, 0, A2, n2, c2, xs2, f2, 0⟩ (fun _ => false) W0.drew :=
  ⟨by simpa using o1.keepS ((Keep.refl [] W0).drew) (by simp), by simpa using o2.keepS ((Keep.refl [] W0).drew) (by simp), hd, (Keep.refl _ _).drew, fun g hg => .inl hg, fun g hg => .inl hg, fun _ => ⟨rfl, rfl, rfl, rfl⟩, (fun h => by cases h), fun _ => ⟨rfl, rfl, rfl, rfl⟩, (fun h => by cases h), (fun h => by cases h), (fun h => by cases h)⟩
/-- an operation that is none of the four -/
theorem GW2.other (h : GW2 i1 j1 i2 j2 W0 e1 e2 u1 u2 A1 n1 c1 xs1 f1 A2 n2 c2 xs2 f2 s l w) {i : Nat} (hi : i1 ≠ i ∧ j1 ≠ i ∧ i2 ≠ i ∧ j2 ≠ i) : GW2 i1 j1 i2 j2 W0 e1 e2 u1 u2 A1 n1 c1 xs1 f1 A2 n2 c2 xs2 f2 s (upd l i) w := by
  obtain ⟨h1, h2, h3, h4⟩ := hi
  exact ⟨h.o1, h.o2, h.dis, h.kp, h.in1, h.in2, by simpa [upd, h2] using h.a1, by simpa [upd, h2] using h.z1, by simpa [upd, h4] using h.a2, by simpa [upd, h4] using h.z2, by simpa [upd, h1] using h.t1, by simpa [upd, h3] using h.t2⟩
theorem cell_new_one' (w : World) (u : Value) (t : TypeId) : (w.alloc (.cells #[u] t)).cell? ⟨w.heap.size, 0, none⟩ = some u := cell_new_one w u t
theorem GW2.build1 (h : GW2 i1 j1 i2 j2 W0 e1 e2 u1 u2 A1 n1 c1 xs1 f1 A2 n2 c2 xs2 f2 s l w) (t : TypeId) (hi : j1 ≠ i1 ∧ i2 ≠ i1 ∧ j2 ≠ i1) :
    GW2 i1 j1 i2 j2 W0 e1 e2 u1 u2 A1 n1 c1 xs1 f1 A2 n2 c2 xs2 f2 { s with b1 := w.heap.size } (upd l i1) (w.alloc (.cells #[u1] t)) := by
  obtain ⟨h1, h2, h3⟩ := hi
  have hb : Below w.heap.size w (w.alloc (.cells #[u1] t)) := (Below.refl _ _).alloc (Nat.le_refl _) _
  refine ⟨h.o1.alloc _, h.o2.alloc _, h.dis, h.kp.alloc _, h.in1, h.in2, by simpa [upd, h1] using h.a1, by simpa [upd, h1] using h.z1, by simpa [upd, h3] using h.a2, by simpa [upd, h3] using h.z2, fun _ => ⟨cell_new_one _ _ _, ?_, ?_, by simp⟩, fun h5 => ?_⟩
  · intro hm; have := h.o1.lt _ hm; simp at this
  · intro hm; have := h.o2.lt _ hm; simp at this
  · obtain ⟨k1, k2, k3, k4⟩ := h.t2 (by simpa [upd, h2] using h5)
    exact ⟨(hb.cell (p := ⟨s.b2, 0, none⟩) k4).trans k1, k2, k3, by simp; omega⟩
theorem GW2.build2 (h : GW2 i1 j1 i2 j2 W0 e1 e2 u1 u2 A1 n1 c1 xs1 f1 A2 n2 c2 xs2 f2 s l w) (t : TypeId) (hi : j1 ≠ i2 ∧ i1 ≠ i2 ∧ j2 ≠ i2) :
    GW2 i1 j1 i2 j2 W0 e1 e2 u1 u2 A1 n1 c1 xs1 f1 A2 n2 c2 xs2 f2 { s with b2 := w.heap.size } (upd l i2) (w.alloc (.cells #[u2] t)) := by
  obtain ⟨h1, h2, h3⟩ := hi
  have hb : Below w.heap.size w (w.alloc (.cells #[u2] t)) := (Below.refl _ _).alloc (Nat.le_refl _) _
  refine ⟨h.o1.alloc _, h.o2.alloc _, h.dis, h.kp.alloc _, h.in1, h.in2, by simpa [upd, h1] using h.a1, by simpa [upd, h1] using h.z1, by simpa [upd, h3] using h.a2, by simpa [upd, h3] using h.z2, fun h5 => ?_, fun _ => ⟨cell_new_one _ _ _, ?_, ?_, by simp⟩⟩
  · obtain ⟨k1, k2, k3, k4⟩ := h.t1 (by simpa [upd, h2] using h5)
    exact ⟨(hb.cell (p := ⟨s.b1, 0, none⟩) k4).trans k1, k2, k3, by simp; omega⟩
  · intro hm; have := h.o1.lt _ hm; simp at this
  · intro hm; have := h.o2.lt _ hm; simp at this
theorem GW2.app1 (h : GW2 i1 j1 i2 j2 W0 e1 e2 u1 u2 A1 n1 c1 xs1 f1 A2 n2 c2 xs2 f2 s l w) (hl : l j1 = false) (hi : i1 ≠ j1 ∧ i2 ≠ j1 ∧ j2 ≠ j1) {g off c' : Nat} {w' : World}
    (ho : OwnA w' e1 (some ⟨g, off, none⟩) (n1 + 1) c' (xs1 ++ [u1]) [g]) (hg : g ∈ s.f1 ∨ w.heap.size = g) (hk : Keep s.f1 w w') :
    GW2 i1 j1 i2 j2 W0 e1 e2 u1 u2 A1 n1 c1 xs1 f1 A2 n2 c2 xs2 f2 { s with A1 := some ⟨g, off, none⟩, n1 := n1 + 1, c1 := c', xs1 := xs1 ++ [u1], f1 := [g] } (upd l j1) w' := by
  obtain ⟨h1, h2, h3⟩ := hi
  have hs := h.kp.size
  have hin : g ∈ f1 ∨ W0.heap.size ≤ g := by
    rcases hg with hg | hg
    · exact h.in1 g hg
    · exact .inr (by omega)
  have hd2 : ∀ x ∈ s.f2, x ∉ s.f1 := fun x hx hm => h.dis x hm hx
  refine ⟨ho, h.o2.keepS hk hd2, ?_, h.kp.trans hk (fun x hx => ?_), ?_, h.in2, fun h5 => by simp [upd] at h5, fun _ => ⟨rfl, rfl⟩, by simpa [upd, h3] using h.a2, by simpa [upd, h3] using h.z2, fun h5 => ?_, fun h5 => ?_⟩
  · intro x hx hm
    rw [List.mem_singleton.1 hx] at hm
    rcases hg with hg | hg
    · exact h.dis g hg hm
    · have := h.o2.lt _ hm; omega
  · rcases h.in1 x hx with h5 | h5
    · exact .inl (List.mem_append.2 (.inl h5))
    · exact .inr h5
  · intro x hx; rw [List.mem_singleton.1 hx]; exact hin
  · obtain ⟨k1, k2, k3, k4⟩ := h.t1 (by simpa [upd, h1] using h5)
    refine ⟨hk.cell k1 k2, ?_, k3, Nat.lt_of_lt_of_le k4 hk.size⟩
    intro hm
    have e : s.b1 = g := List.mem_singleton.1 hm
    rcases hg with hg | hg
    · exact k2 (by rw [e]; exact hg)
    · omega
  · obtain ⟨k1, k2, k3, k4⟩ := h.t2 (by simpa [upd, h2] using h5)
    refine ⟨hk.cell k1 k2, ?_, k3, Nat.lt_of_lt_of_le k4 hk.size⟩
    intro hm
    have e : s.b2 = g := List.mem_singleton.1 hm
    rcases hg with hg | hg
    · exact k2 (by rw [e]; exact hg)
    · omega
theorem GW2.app2 (h : GW2 i1 j1 i2 j2 W0 e1 e2 u1 u2 A1 n1 c1 xs1 f1 A2 n2 c2 xs2 f2 s l w) (hl : l j2 = false) (hi : i1 ≠ j2 ∧ i2 ≠ j2 ∧ j1 ≠ j2) {g off c' : Nat} {w' : World}
    (ho : OwnA w' e2 (some ⟨g, off, none⟩) (n2 + 1) c' (xs2 ++ [u2]) [g]) (hg : g ∈ s.f2 ∨ w.heap.size = g) (hk : Keep s.f2 w w') :
    GW2 i1 j1 i2 j2 W0 e1 e2 u1 u2 A1 n1 c1 xs1 f1 A2 n2 c2 xs2 f2 { s with A2 := some ⟨g, off, none⟩, n2 := n2 + 1, c2 := c', xs2 := xs2 ++ [u2], f2 := [g] } (upd l j2) w' := by
  obtain ⟨h1, h2, h3⟩ := hi
  have hs := h.kp.size
  have hin : g ∈ f2 ∨ W0.heap.size ≤ g := by
    rcases hg with hg | hg
    · exact h.in2 g hg
    · exact .inr (by omega)
  refine ⟨h.o1.keepS hk h.dis, ho, ?_, h.kp.trans hk (fun x hx => ?_), h.in1, ?_, by simpa [upd, h3] using h.a1, by simpa [upd, h3] using h.z1, fun h5 => by simp [upd] at h5, fun _ => ⟨rfl, rfl⟩, fun h5 => ?_, fun h5 => ?_⟩
  · intro x hx hm
    have e : x = g := List.mem_singleton.1 hm
    rcases hg with hg | hg
    · exact h.dis x hx (by rw [e]; exact hg)
    · have := h.o1.lt _ hx; omega
  · rcases h.in2 x hx with h5 | h5
    · exact .inl (List.mem_append.2 (.inr h5))
    · exact .inr h5
  · intro x hx; rw [List.mem_singleton.1 hx]; exact hin
  · obtain ⟨k1, k2, k3, k4⟩ := h.t1 (by simpa [upd, h1] using h5)
    refine ⟨hk.cell k1 k3, k2, ?_, Nat.lt_of_lt_of_le k4 hk.size⟩
    intro hm
    have e : s.b1 = g := List.mem_singleton.1 hm
    rcases hg with hg | hg
    · exact k3 (by rw [e]; exact hg)
    · omega
  · obtain ⟨k1, k2, k3, k4⟩ := h.t2 (by simpa [upd, h2] using h5)
    refine ⟨hk.cell k1 k3, k2, ?_, Nat.lt_of_lt_of_le k4 hk.size⟩
    intro hm
    have e : s.b2 = g := List.mem_singleton.1 hm
    rcases hg with hg | hg
    · exact k3 (by rw [e]; exact hg)
    · omega
end
end Go.Proofs.YtalcinepeofmcaaDoor
/- The leaves of layer 8: within, the closures on steps, upTo, vessels. -/
namespace Go.Proofs.YtalcinepeofmcaaDoor
open Go Go.RowKit Sp

theorem within_any (n lo hi : Int) (w : World) :
    Calls Tryd.prog 22 #[.int .i64 n, .int .i64 lo, .int .i64 hi] w fun e w' => e = .returned (.bool (within n lo hi)) ∧ w = w' := by
  go_enter Tryd.func22, Tryd.ntmps22
  go_wp2
  all_goals (go_ret; refine ⟨?_, rfl⟩; simp [within]; try omega)

def stc (s : Stp) : List Value := [.int .i64 s.cls, .int .i64 s.ton, .int .i64 s.up, .int .i64 s.dn]
def stcs (l : List Stp) : List Value := l.flatMap stc

theorem stcs_get {l : List Stp} {k : Nat} (hk : k < l.length) : (stcs l)[k*4]? = some (.int .i64 l[k].cls) ∧ (stcs l)[k*4+1]? = some (.int .i64 l[k].ton) ∧ (stcs l)[k*4+2]? = some (.int .i64 l[k].up) ∧ (stcs l)[k*4+3]? = some (.int .i64 l[k].dn) := by
  induction l generalizing k with
  | nil => simp at hk
  | cons s l ih =>
    cases k with
    | zero => simp [stcs, stc]
    | succ k =>
      have h4 : ∀ j, (stcs (s :: l))[4 + j]? = (stcs l)[j]? := fun j => by
        simp only [stcs, List.flatMap_cons, stc]
        rw [List.getElem?_append_right (by simp)]
        simp
      have e : ∀ j, (k+1)*4 + j = 4 + (k*4 + j) := fun j => by omega
      have e0 : (k+1)*4 = 4 + k*4 := by omega
      have hk' : k < l.length := by simpa using hk
      rw [e, e, e, e0, h4, h4, h4, h4]
      simpa using ih hk'

/-- the policy p lies in block pb -/
def PolAt (w : World) (pb : Nat) (p : Pol) : Prop := ∃ A c, w.heap[pb]? = some (.cells #[.slice A p.steps.length c, .int .i64 p.hold, .int .i64 p.calm, .int .i64 p.notice, .int .i64 p.grace] 51 (0, 0)) ∧ p.steps.length ≤ c ∧ c ≤ maxLen ∧ Rd w 4 A p.steps.length (stcs p.steps)

theorem up_any (s : Stp) (w : World) :
    Calls Tryd.prog 97 #[.agg #[.int .i64 s.cls, .int .i64 s.ton, .int .i64 s.up, .int .i64 s.dn]] w fun e w' => e = .returned (.int .i64 s.up) ∧ Below w.heap.size w w' := by
  go_enter Tryd.func97, Tryd.ntmps97
  go_wp2
  go_ret
  exact ⟨rfl, (Below.refl _ _).alloc (Nat.le_refl _) _⟩

theorem dn_any (s : Stp) (w : World) :
    Calls Tryd.prog 86 #[.agg #[.int .i64 s.cls, .int .i64 s.ton, .int .i64 s.up, .int .i64 s.dn]] w fun e w' => e = .returned (.int .i64 s.dn) ∧ Below w.heap.size w w' := by
  go_enter Tryd.func86, Tryd.ntmps86
  go_wp2
  go_ret
  exact ⟨rfl, (Below.refl _ _).alloc (Nat.le_refl _) _⟩

theorem upToN_succ (l : List Int) (sev : Int) (k : Nat) : upToN l sev (k + 1) = if l.getD k 0 ≤ sev then (k : Int) else upToN l sev k := rfl
set_option maxHeartbeats 400000 in
theorem upToUp_any (pb : Nat) (p : Pol) (sev : Int) (w : World) (hp : PolAt w pb p) :
    Calls Tryd.prog 85 #[.agg #[.pointer (some ⟨pb, 0, none⟩)], .int .i64 sev, .func (.func 97) #[] #[]] w fun e w' => e = .returned (.int .i64 (upTo (p.steps.map (·.up)) sev)) ∧ Below w.heap.size w w' := by
  obtain ⟨A, c, hh, hnc, hcm, hr⟩ := hp
  unfold maxLen at hcm
  have hlt : pb < w.heap.size := (Array.getElem?_eq_some_iff.1 hh).1
  have h0 : w.cell? ⟨pb, 0, none⟩ = some (.slice A p.steps.length c) := cell_of_row w pb 0 _ _ _ hh
  clear hh
  go_enter Tryd.func85, Tryd.ntmps85
  go_wp2
  go_loopw [7, 16] (fun r i wr => ∃ k : Nat, k ≤ p.steps.length ∧ i = .int .i64 k ∧ r = .int .i64 (upToN (p.steps.map (·.up)) sev k) ∧ Below w.heap.size w wr)
    (fun _ i _ => p.steps.length - (intOf i).toNat)
  case atStart => exact ⟨0, Nat.zero_le _, rfl, rfl, (Below.refl _ _).alloc (Nat.le_refl _) _⟩
  case round =>
    obtain ⟨k, hk, rfl, rfl, hB⟩ := hrel
    by_cases hlt : k < p.steps.length
    · obtain ⟨b, off, rfl, hb, hc⟩ := hr.2 (by omega)
      obtain ⟨s0, s1, s2, s3⟩ := stcs_get hlt
      have bc := (bcell hB).1
      have c0 := (bc b (off + k*4) hb).trans (hc _ _ s0)
      have c1 := (bc b (off + k*4 + 1) hb).trans (hc _ _ s1)
      have c2 := (bc b (off + k*4 + 2) hb).trans (hc _ _ s2)
      have c3 := (bc b (off + k*4 + 3) hb).trans (hc _ _ s3)
      clear hc s0 s1 s2 s3 bc
      go_wp2_with (go_at_call 97; refine (up_any _ _).mono ?_; rintro e w' ⟨rfl, hB1⟩)
      all_goals
        have hB2 : Below w.heap.size w w' := (((hB.alloc hB.size _)).trans (hB1.mono (by have := hB.size; simp; omega)))
        have hsz := hB.size
        go_roundw
        case rel => exact ⟨k + 1, by omega, by go_num, by rw [upToN_succ]; simp [*] ; try omega, hB2⟩
        case measure => simp [intOf]; omega
    · obtain rfl : k = p.steps.length := by omega
      go_wp2
      go_ret
      exact ⟨by simp [upTo], hB⟩
set_option maxHeartbeats 400000 in
theorem upToDn_any (pb : Nat) (p : Pol) (sev : Int) (w : World) (hp : PolAt w pb p) :
    Calls Tryd.prog 85 #[.agg #[.pointer (some ⟨pb, 0, none⟩)], .int .i64 sev, .func (.func 86) #[] #[]] w fun e w' => e = .returned (.int .i64 (upTo (p.steps.map (·.dn)) sev)) ∧ Below w.heap.size w w' := by
  obtain ⟨A, c, hh, hnc, hcm, hr⟩ := hp
  unfold maxLen at hcm
  have hlt : pb < w.heap.size := (Array.getElem?_eq_some_iff.1 hh).1
  have h0 : w.cell? ⟨pb, 0, none⟩ = some (.slice A p.steps.length c) := cell_of_row w pb 0 _ _ _ hh
  clear hh
  go_enter Tryd.func85, Tryd.ntmps85
  go_wp2
  go_loopw [7, 16] (fun r i wr => ∃ k : Nat, k ≤ p.steps.length ∧ i = .int .i64 k ∧ r = .int .i64 (upToN (p.steps.map (·.dn)) sev k) ∧ Below w.heap.size w wr)
    (fun _ i _ => p.steps.length - (intOf i).toNat)
  case atStart => exact ⟨0, Nat.zero_le _, rfl, rfl, (Below.refl _ _).alloc (Nat.le_refl _) _⟩
  case round =>
    obtain ⟨k, hk, rfl, rfl, hB⟩ := hrel
    by_cases hlt : k < p.steps.length
    · obtain ⟨b, off, rfl, hb, hc⟩ := hr.2 (by omega)
      obtain ⟨s0, s1, s2, s3⟩ := stcs_get hlt
      have bc := (bcell hB).1
      have c0 := (bc b (off + k*4) hb).trans (hc _ _ s0)
      have c1 := (bc b (off + k*4 + 1) hb).trans (hc _ _ s1)
      have c2 := (bc b (off + k*4 + 2) hb).trans (hc _ _ s2)
      have c3 := (bc b (off + k*4 + 3) hb).trans (hc _ _ s3)
      clear hc s0 s1 s2 s3 bc
      go_wp2_with (go_at_call 86; refine (dn_any _ _).mono ?_; rintro e w' ⟨rfl, hB1⟩)
      all_goals
        have hB2 : Below w.heap.size w w' := (((hB.alloc hB.size _)).trans (hB1.mono (by have := hB.size; simp; omega)))
        have hsz := hB.size
        go_roundw
        case rel => exact ⟨k + 1, by omega, by go_num, by rw [upToN_succ]; simp [*] ; try omega, hB2⟩
        case measure => simp [intOf]; omega
    · obtain rfl : k = p.steps.length := by omega
      go_wp2
      go_ret
      exact ⟨by simp [upTo], hB⟩

def veCells (v : Ves) : List Value := [.int .i64 v.cls, .int .i64 v.ton, .bool v.esc]

theorem right_any (v : Ves) (w : World) :
    Calls Tryd.prog 40 #[.agg #[.int .i64 v.cls, .int .i64 v.ton, .bool v.esc]] w fun e w' => e = .returned (.bool (vright v)) ∧ Below w.heap.size w w' := by
  go_enter Tryd.func40, Tryd.ntmps40
  go_wp2_with (go_at_call 22; refine (within_any _ _ _ _).mono ?_; rintro e w' ⟨rfl, rfl⟩)
  all_goals (go_ret; exact ⟨by simp_all [vright], (Below.refl _ _).alloc (Nat.le_refl _) _⟩)

theorem fulfils_any (v : Ves) (s : Stp) (w : World) (h1 : -1000000000 ≤ v.cls ∧ v.cls ≤ 1000000000) :
    Calls Tryd.prog 66 #[.agg #[.int .i64 v.cls, .int .i64 v.ton, .bool v.esc], .agg #[.int .i64 s.cls, .int .i64 s.ton, .int .i64 s.up, .int .i64 s.dn]] w fun e w' => e = .returned (.bool (fulfils v s)) ∧ Below w.heap.size w w' := by
  obtain ⟨h1, h2⟩ := h1
  cases hv : v.esc
  · go_enter Tryd.func66, Tryd.ntmps66
    go_wp2
    all_goals (go_ret; refine ⟨by simp_all [fulfils]; try omega, ?_⟩; exact ((Below.refl _ _).alloc (Nat.le_refl _) _).alloc (by simp) _)
  · go_enter Tryd.func66, Tryd.ntmps66
    go_wp2
    all_goals (go_ret; refine ⟨by simp_all [fulfils]; try omega, ?_⟩; exact ((Below.refl _ _).alloc (Nat.le_refl _) _).alloc (by simp) _)
end Go.Proofs.YtalcinepeofmcaaDoor
/- Plain: every step that is decided or in force is one of the policy's. -/
namespace Go.Proofs.YtalcinepeofmcaaDoor.Sp

theorem upToN_range (l : List Int) (sev : Int) : ∀ n, 0 ≤ upToN l sev n ∧ (0 < n → upToN l sev n < n)
  | 0 => ⟨Int.le_refl _, fun h => absurd h (by omega)⟩
  | n + 1 => by
    have ih := upToN_range l sev n
    unfold upToN
    split
    · exact ⟨by omega, fun _ => by omega⟩
    · refine ⟨ih.1, fun _ => ?_⟩
      rcases Nat.eq_zero_or_pos n with h | h
      · subst h; simp [upToN]
      · have := ih.2 h; omega

theorem upTo_range (l : List Int) (sev : Int) (h : l ≠ []) : 0 ≤ upTo l sev ∧ upTo l sev < l.length := by
  have := upToN_range l sev l.length
  exact ⟨this.1, this.2 (by cases l with | nil => exact absurd rfl h | cons _ _ => simp)⟩

/-- what a window keeps are numbers that came -/
theorem pushD_mem {wide at_ : Int} {gr : Bool} {D : List (Int × Int)} {x : Int} {p : Int × Int} (h : p ∈ pushD wide at_ gr D x) : p ∈ D ∨ p = (x, at_) := by
  have h1 : p ∈ D.take (popLen gr x (D.map (·.1)) D.length) ++ [(x, at_)] := by
    simp only [pushD] at h
    split at h
    · exact List.mem_of_mem_tail h
    · exact h
  rcases List.mem_append.1 h1 with h1 | h1
  · exact .inl (List.mem_of_mem_take h1)
  · exact .inr (by simpa using h1)

theorem pushD_ne_nil {wide at_ : Int} {gr : Bool} {D : List (Int × Int)} {x : Int} (hw : 1 ≤ wide) : pushD wide at_ gr D x ≠ [] := by
  simp only [pushD]
  split
  · rename_i h
    cases hD : D.take (popLen gr x (D.map (·.1)) D.length) with
    | nil => rw [hD] at h; simp at h; omega
    | cons p r => simp
  · simp

theorem headV_mem {D : List (Int × Int)} (h : D ≠ []) : ∃ p ∈ D, headV D = p.1 := by
  cases D with
  | nil => exact absurd rfl h
  | cons p r => exact ⟨p, by simp, rfl⟩

theorem dq_mem {wide : Int} {gr : Bool} {xs : List Int} : ∀ {k : Nat} {p : Int × Int}, p ∈ dq wide gr xs k → ∃ i : Nat, i < k ∧ p = (xs.getD i 0, (i : Int))
  | 0, p, h => by simp [dq] at h
  | k + 1, p, h => by
    rcases pushD_mem h with h | h
    · obtain ⟨i, hi, e⟩ := dq_mem h
      exact ⟨i, by omega, e⟩
    · exact ⟨k, by omega, h⟩

theorem slide_all {wide : Int} {gr : Bool} {xs : List Int} (hw : 1 ≤ wide) {P : Int → Prop} (h : ∀ x ∈ xs, P x) : ∀ y ∈ slide wide gr xs, P y := by
  intro y hy
  simp only [slide, slideN, List.mem_map, List.mem_range] at hy
  obtain ⟨k, hk, rfl⟩ := hy
  obtain ⟨p, hp, e⟩ := headV_mem (D := dq wide gr xs (k + 1)) (pushD_ne_nil hw)
  obtain ⟨i, hi, rfl⟩ := dq_mem hp
  rw [e]
  have hil : i < xs.length := by omega
  rw [List.getD_eq_getElem?_getD, List.getElem?_eq_getElem hil]
  exact h _ (List.getElem_mem hil)

/-- a step of the policy -/
def IsStep (p : Pol) (y : Int) : Prop := 0 ≤ y ∧ y < p.steps.length

theorem raisedS_range {p : Pol} (hs : p.steps ≠ []) (days : List Int) : ∀ y ∈ raisedS p days, IsStep p y := by
  intro y hy
  simp only [raisedS, List.mem_map] at hy
  obtain ⟨k, _, rfl⟩ := hy
  have := upTo_range (ups p) (if (k : Int) + 1 < p.hold then 0 else (slide p.hold false days).getD k 0) (by simpa [ups] using hs)
  simpa [ups, raisedAt, IsStep] using this
theorem keptS_range {p : Pol} (hs : p.steps ≠ []) (days : List Int) : ∀ y ∈ keptS p days, IsStep p y := by
  intro y hy
  simp only [keptS, List.mem_map] at hy
  obtain ⟨k, _, rfl⟩ := hy
  have := upTo_range (dns p) ((slide p.calm true days).getD k 0) (by simpa [dns] using hs)
  simpa [dns, keptAt, IsStep] using this
theorem getD_all {P : Int → Prop} {l : List Int} (h : ∀ y ∈ l, P y) (h0 : P 0) (k : Nat) : P (l.getD k 0) := by
  rw [List.getD_eq_getElem?_getD]
  cases hk : l[k]? with
  | none => exact h0
  | some y => exact h y (List.mem_of_getElem? hk)
theorem isStep_zero {p : Pol} (hs : p.steps ≠ []) : IsStep p 0 := ⟨Int.le_refl _, by cases h : p.steps with | nil => exact absurd h hs | cons _ _ => simp⟩
theorem decN_range {p : Pol} (hs : p.steps ≠ []) (days : List Int) : ∀ k, IsStep p (decN (raisedS p days) (keptS p days) k)
  | 0 => isStep_zero hs
  | k + 1 => by
    have h1 := getD_all (raisedS_range hs days) (isStep_zero hs) k
    have h2 := getD_all (keptS_range hs days) (isStep_zero hs) k
    have h3 := decN_range hs days k
    unfold decN
    unfold IsStep at *
    omega
theorem decidedS_range {p : Pol} (hs : p.steps ≠ []) (days : List Int) : ∀ y ∈ decidedS p days, IsStep p y := by
  intro y hy
  simp only [decidedS, decL, List.mem_map] at hy
  obtain ⟨k, _, rfl⟩ := hy
  exact decN_range hs days (k + 1)
theorem forceS_range {p : Pol} (hs : p.steps ≠ []) (hn : 0 ≤ p.notice) (days : List Int) : ∀ y ∈ forceS p days, IsStep p y := by
  intro y hy
  refine slide_all (by omega) ?_ y (List.mem_of_mem_drop hy)
  intro x hx
  rcases List.mem_append.1 hx with h | h
  · rw [List.eq_of_mem_replicate h]; exact isStep_zero hs
  · exact decidedS_range hs days x h

/-- on which days a vessel may pass -/
def passesS (p : Pol) (days : List Int) (v : Ves) : List Bool := (forceS p days).map fun k => fulfils v (p.steps.getD k.toNat default)
theorem passesS_length (p : Pol) (days : List Int) (v : Ves) : (passesS p days v).length = days.length := by simp [passesS, forceS_length]
end Go.Proofs.YtalcinepeofmcaaDoor.Sp
/- What the functions of layer 8 compute, further: the errors. -/
namespace Go.Proofs.YtalcinepeofmcaaDoor.Sp

def goodStep (s : Stp) : Bool := within s.cls 0 6 && within s.ton 0 500000 && within s.up 0 2000 && within s.dn 0 s.up
def goodPair (b s : Stp) : Bool := !(decide (s.cls < b.cls) || decide (s.ton < b.ton) || decide (s.up ≤ b.up) || decide (s.dn < b.dn))
def goodAt (l : List Stp) (i : Nat) : Bool := goodStep (l.getD i default) && (i == 0 || goodPair (l.getD (i - 1) default) (l.getD i default))
def stepsOkN (l : List Stp) : Nat → Bool
  | 0 => true
  | k + 1 => stepsOkN l k && goodAt l k
theorem stepsOkN_false {l : List Stp} {k : Nat} (hg : goodAt l k = false) : ∀ {n}, k < n → stepsOkN l n = false
  | 0, h => absurd h (by omega)
  | n + 1, h => by
    unfold stepsOkN
    by_cases hk : k = n
    · subst hk; rw [hg, Bool.and_false]
    · rw [stepsOkN_false hg (by omega : k < n), Bool.false_and]
theorem bnot_false {b : Bool} (h : (!b) = false) : b = true := by simpa using h
theorem bnot_true {b : Bool} (h : (!b) = true) : b = false := by simpa using h
theorem goodStep_mk {s : Stp} (h1 : within s.cls 0 6 = true) (h2 : within s.ton 0 500000 = true) (h3 : within s.up 0 2000 = true) (h4 : within s.dn 0 s.up = true) : goodStep s = true := by simp [goodStep, h1, h2, h3, h4]
theorem goodPair_mk {b s : Stp} (h1 : b.cls ≤ s.cls) (h2 : b.ton ≤ s.ton) (h3 : b.up < s.up) (h4 : b.dn ≤ s.dn) : goodPair b s = true := by simp [goodPair]; omega
theorem goodAt_zero {l : List Stp} {s : Stp} (hs : s = l.getD 0 default) (h : goodStep s = true) : goodAt l 0 = true := by simp only [goodAt]; rw [← hs, h]; rfl
theorem goodAt_succ {l : List Stp} {k : Nat} {s b : Stp} (hs : s = l.getD k default) (hb : b = l.getD (k - 1) default) (h : goodStep s = true) (hp : goodPair b s = true) : goodAt l k = true := by simp only [goodAt]; rw [← hs, ← hb, h, hp]; simp
theorem stepsOkN_succ {l : List Stp} {k : Nat} (h : stepsOkN l k = true) (hg : goodAt l k = true) : stepsOkN l (k + 1) = true := by unfold stepsOkN; rw [h, hg]; rfl
theorem goodAt_bad {l : List Stp} {k : Nat} {s : Stp} (hs : s = l.getD k default) (h : goodStep s = false) : goodAt l k = false := by simp only [goodAt]; rw [← hs, h]; rfl
theorem goodAt_badp {l : List Stp} {k : Nat} {s b : Stp} (hk : k ≠ 0) (hs : s = l.getD k default) (hb : b = l.getD (k - 1) default) (h : goodPair b s = false) : goodAt l k = false := by simp only [goodAt]; rw [← hs, ← hb, h]; simp [hk]
def badGlob (p : Pol) : Bool := !within p.hold 1 30 || !within p.calm 1 30 || !within p.notice 0 30 || !within p.grace 0 60 || !decide (p.steps.headD default = ⟨0, 0, 0, 0⟩)
/-- the error of a policy -/
def checkS (p : Pol) : Int := if !within p.steps.length 1 8 then 2 else if badGlob p then 90 else if stepsOkN p.steps p.steps.length then 0 else 90
theorem check_bad {p : Pol} (hw : within p.steps.length 1 8 = true) (hb : badGlob p = true) : checkS p = 90 := by simp [checkS, hw, hb]
theorem check_not {p : Pol} (hw : within p.steps.length 1 8 = true) {k : Nat} (hk : k < p.steps.length) (hg : goodAt p.steps k = false) : checkS p = 90 := by
  simp only [checkS, hw, stepsOkN_false hg hk]; simp
theorem check_yes {p : Pol} (hw : within p.steps.length 1 8 = true) (hb : badGlob p = false) (hg : stepsOkN p.steps p.steps.length = true) : checkS p = 0 := by simp [checkS, hw, hb, hg]
/-- the error of a policy and a history -/
def startS (p : Pol) (days : List Int) : Int := if checkS p ≠ 0 then checkS p else if (400 : Int) < days.length then 2 else if days.any (fun n => !within n 0 2000) then 6 else 0

theorem check_ok {p : Pol} (h : checkS p = 0) : p.steps ≠ [] ∧ p.steps.length ≤ 8 ∧ 1 ≤ p.hold ∧ p.hold ≤ 30 ∧ 1 ≤ p.calm ∧ p.calm ≤ 30 ∧ 0 ≤ p.notice ∧ p.notice ≤ 30 ∧ 0 ≤ p.grace ∧ p.grace ≤ 60 := by
  unfold checkS at h
  split at h
  · cases h
  · rename_i h1
    split at h
    · cases h
    · rename_i h2
      simp [badGlob, within] at h1 h2
      refine ⟨by intro e; rw [e] at h1; simp at h1, by omega, by omega, by omega, by omega, by omega, by omega, by omega, by omega, by omega⟩
theorem start_ok {p : Pol} {days : List Int} (h : startS p days = 0) : checkS p = 0 ∧ days.length ≤ 400 ∧ ∀ n ∈ days, 0 ≤ n ∧ n ≤ 2000 := by
  unfold startS at h
  split at h
  · rename_i h1; exact absurd h h1
  · rename_i h1
    split at h
    · cases h
    · rename_i h2
      split at h
      · cases h
      · rename_i h3
        refine ⟨by simpa using h1, by omega, fun n hn => ?_⟩
        simp only [List.any_eq_true, not_exists, not_and] at h3
        have := h3 n hn
        simp [within] at this
        omega
end Go.Proofs.YtalcinepeofmcaaDoor.Sp
/- restrict.Check -/
namespace Go.Proofs.YtalcinepeofmcaaDoor
open Go Go.RowKit Sp

theorem stp_neq (s : Stp) (w : World) : (binOp .neq 48 (.agg #[.int .i64 s.cls, .int .i64 s.ton, .int .i64 s.up, .int .i64 s.dn]) (.agg #[.int .i64 0, .int .i64 0, .int .i64 0, .int .i64 0])).run Tryd.prog w = .ok (.bool (!decide (s = ⟨0, 0, 0, 0⟩))) w := by
  have u3 := Tryd.underlying3
  have a3 := Tryd.isAgg3
  have z3 := Tryd.sizeOf3
  have hS : Tryd.prog.underlying 48 = some (.struct (Tryd.prog.fieldsOf 48)) := by kernel_rfl
  have hp : Tryd.prog.stoodInHeld 48 = false := by kernel_rfl
  rw [run_neq_struct, show (10000 : Nat) = 9999 + 1 from rfl, run_equalIn_agg w 9999 48 _ _ hS hp]
  simp only [Program.fieldsOf, Tryd.underlying48]
  go_simp
  obtain ⟨a, b, c, d⟩ := s
  by_cases h1 : a = 0 <;> by_cases h2 : b = 0 <;> by_cases h3 : c = 0 <;> by_cases h4 : d = 0 <;> simp [h1, h2, h3, h4]

/-- a policy as a value -/
def PolV (w : World) (A : Option Addr) (c : Nat) (p : Pol) : Prop := p.steps.length ≤ c ∧ c ≤ maxLen ∧ Rd w 4 A p.steps.length (stcs p.steps)

set_option maxRecDepth 100000 in
set_option maxHeartbeats 2000000 in
theorem check_any (A : Option Addr) (c : Nat) (p : Pol) (w : World) (hp : PolV w A c p) :
    Calls Tryd.prog 78 #[.agg #[.slice A p.steps.length c, .int .i64 p.hold, .int .i64 p.calm, .int .i64 p.notice, .int .i64 p.grace]] w fun e w' => e = .returned (.int .i64 (checkS p)) ∧ Below w.heap.size w w' := by
  obtain ⟨h1, h2, hr⟩ := hp
  unfold maxLen at h2
  cases hw : within p.steps.length 1 8
  · go_enter Tryd.func78, Tryd.ntmps78
    go_wp2_with (go_at_call 22; refine (within_any _ _ _ _).mono ?_; rintro e w' ⟨rfl, rfl⟩)
    go_ret
    exact ⟨by simp [checkS, hw], (Below.refl _ _).alloc (Nat.le_refl _) _⟩
  · have hlen : 1 ≤ p.steps.length ∧ p.steps.length ≤ 8 := by simp [within] at hw; omega
    obtain ⟨b, off, rfl, hb, hc⟩ := hr.2 (by omega)
    obtain ⟨a0, a1, a2, a3⟩ := stcs_get (l := p.steps) (k := 0) (by omega)
    have c0 := hc _ _ a0
    have c1 := hc _ _ a1
    have c2 := hc _ _ a2
    have c3 := hc _ _ a3
    simp only [Nat.zero_mul, Nat.add_zero, Nat.zero_add] at c0 c1 c2 c3
    obtain ⟨s0, hs0⟩ : ∃ s0, s0 = p.steps[0]'(by omega) := ⟨_, rfl⟩
    rw [← hs0] at c0 c1 c2 c3
    have hh0 : p.steps.headD default = s0 := by
      rw [hs0, ← List.getD_eq_getElem?_getD.trans (by rw [List.getElem?_eq_getElem (by omega)]; rfl : (p.steps[0]?).getD default = p.steps[0]'(by omega))]
      cases p.steps <;> simp
    have hl1 : (0 : Int) < (p.steps.length : Int) := by omega
    obtain ⟨z, hz⟩ : ∃ z, z = !decide (s0 = ⟨0, 0, 0, 0⟩) := ⟨_, rfl⟩
    have hne : ∀ w, (binOp .neq 48 (.agg #[.int .i64 s0.cls, .int .i64 s0.ton, .int .i64 s0.up, .int .i64 s0.dn]) (.agg #[.int .i64 0, .int .i64 0, .int .i64 0, .int .i64 0])).run Tryd.prog w = .ok (.bool z) w := fun w => by rw [hz]; exact stp_neq s0 w
    have HH := Lib.hid (And.intro hh0 (And.intro hlen hz))
    clear a0 a1 a2 a3 hs0 hh0 hlen hz
    cases z
    case' true =>
      go_enter Tryd.func78, Tryd.ntmps78
      go_wp2_with (go_at_call 22; refine (within_any _ _ _ _).mono ?_; rintro e w' ⟨rfl, rfl⟩)
      all_goals (go_ret; refine ⟨?_, (Below.refl _ _).alloc (Nat.le_refl _) _⟩; rw [check_bad hw (by unfold badGlob; rw [HH.out.1, ← HH.out.2.2]; simp [*])]; rfl)
    go_enter Tryd.func78, Tryd.ntmps78
    go_upto_region 5 with (go_at_call 22; refine (within_any _ _ _ _).mono ?_; rintro e w' ⟨rfl, rfl⟩)
    any_goals (go_ret; refine ⟨?_, (Below.refl _ _).alloc (Nat.le_refl _) _⟩; rw [check_bad hw (by unfold badGlob; rw [HH.out.1]; simp [*])]; rfl)
    have hbg : badGlob p = false := by unfold badGlob; rw [HH.out.1, ← HH.out.2.2]; simp [*]
    have HG := Lib.hid hbg
    clear hbg hne c0 c1 c2 c3
    go_wp2_with fail
    have B0 : Below w.heap.size w (w.alloc (.cells #[.slice (some ⟨b, off, none⟩) p.steps.length c, .int .i64 p.hold, .int .i64 p.calm, .int .i64 p.notice, .int .i64 p.grace] 51)) := (Below.refl _ _).alloc (Nat.le_refl _) _
    obtain ⟨W, hW⟩ : ∃ W, W = w.alloc (.cells #[.slice (some ⟨b, off, none⟩) p.steps.length c, .int .i64 p.hold, .int .i64 p.calm, .int .i64 p.notice, .int .i64 p.grace] 51) := ⟨_, rfl⟩
    have fp0 : W.cell? ⟨w.heap.size, 0, none⟩ = some (.slice (some ⟨b, off, none⟩) p.steps.length c) := by rw [hW]; simp [World.cell?_alloc_new]
    rw [← hW] at B0 ⊢
    obtain ⟨bx, hbx⟩ : ∃ bx, bx = w.heap.size := ⟨_, rfl⟩
    rw [← hbx] at fp0 ⊢
    have HB := Lib.hid (And.intro B0 (And.intro hbx hr))
    clear hW B0 hbx
    go_loopg [44] (p.steps.length) (fun g i wr => ∃ k : Nat, g + k = p.steps.length ∧ i = .int .i64 k ∧ stepsOkN p.steps k = true ∧ Keep [] W wr)
    case atStart => exact ⟨0, rfl, rfl, rfl, Keep.refl _ _⟩
    case round =>
      obtain ⟨k, hk, rfl, hok, hK⟩ := hrel
      by_cases hlt : k < p.steps.length
      · have b0 := HB.out.1
        have bB : Below w.heap.size w wr := b0.trans (hK.below b0.size (by simp))
        have cw : ∀ {o : Nat} {u : Value}, w.cell? ⟨b, o, none⟩ = some u → wr.cell? ⟨b, o, none⟩ = some u := fun h => (bB.cell (p := ⟨b, _, none⟩) hb).trans h
        obtain ⟨a0, a1, a2, a3⟩ := stcs_get hlt
        have d0 := cw (hc _ _ a0)
        have d1 : wr.cell? ⟨b, off + k * 4 + 1, none⟩ = some (.int .i64 p.steps[k].ton) := cw (hc _ _ a1)
        have d2 : wr.cell? ⟨b, off + k * 4 + 2, none⟩ = some (.int .i64 p.steps[k].up) := cw (hc _ _ a2)
        have d3 : wr.cell? ⟨b, off + k * 4 + 3, none⟩ = some (.int .i64 p.steps[k].dn) := cw (hc _ _ a3)
        have fpr := hK.cell fp0 (by simp)
        have hsz : bx < wr.heap.size := World.block_lt_of_cell? wr _ fpr
        have hbl : b < wr.heap.size := Nat.lt_of_lt_of_le hb bB.size
        obtain ⟨st, hst⟩ : ∃ st, st = p.steps.getD k default := ⟨_, rfl⟩
        have hst' : p.steps[k] = st := by rw [hst, List.getD_eq_getElem?_getD, List.getElem?_eq_getElem hlt]; rfl
        rw [hst'] at d0 d1 d2 d3
        have HI := Lib.hid (And.intro hok (And.intro hK (And.intro bB hst)))
        have HC := Lib.hid hc
        clear hst' a0 a1 a2 a3 fp0 b0 bB hok hK hst hc
        by_cases hk0 : k = 0
        · subst hk0
          simp only [Nat.zero_mul, Nat.add_zero] at d0 d1 d2 d3
          go_wp2_with (go_at_call 22; refine (within_any _ _ _ _).mono ?_; rintro e w' ⟨rfl, rfl⟩)
          any_goals (go_ret; refine ⟨?_, HI.out.2.2.1.alloc HI.out.2.2.1.size _⟩; rw [check_not hw hlt (goodAt_bad HI.out.2.2.2 (by unfold goodStep; first | (simp [*]; done) | (rw [bnot_true (b := within st.dn 0 st.up) (by assumption)]; simp)))]; rfl)
          go_roundg (gk - 1)
          case measure => omega
          case rel => exact ⟨0 + 1, by omega, by go_num, stepsOkN_succ HI.out.1 (goodAt_zero HI.out.2.2.2 (goodStep_mk (by first | assumption | exact bnot_false (by assumption)) (by first | assumption | exact bnot_false (by assumption)) (by first | assumption | exact bnot_false (by assumption)) (by first | assumption | exact bnot_false (by assumption)))), HI.out.2.1.alloc _⟩
        · obtain ⟨a0, a1, a2, a3⟩ := stcs_get (l := p.steps) (k := k - 1) (by omega)
          have e0 := cw (HC.out _ _ a0)
          have e1 : wr.cell? ⟨b, off + (k - 1) * 4 + 1, none⟩ = some (.int .i64 (p.steps[k - 1]'(by omega)).ton) := cw (HC.out _ _ a1)
          have e2 : wr.cell? ⟨b, off + (k - 1) * 4 + 2, none⟩ = some (.int .i64 (p.steps[k - 1]'(by omega)).up) := cw (HC.out _ _ a2)
          have e3 : wr.cell? ⟨b, off + (k - 1) * 4 + 3, none⟩ = some (.int .i64 (p.steps[k - 1]'(by omega)).dn) := cw (HC.out _ _ a3)
          obtain ⟨pv, hpv⟩ : ∃ pv, pv = p.steps.getD (k - 1) default := ⟨_, rfl⟩
          have hpv' : p.steps[k - 1]'(by omega) = pv := by rw [hpv, List.getD_eq_getElem?_getD, List.getElem?_eq_getElem (by omega)]; rfl
          rw [hpv'] at e0 e1 e2 e3
          have HV := Lib.hid hpv
          have hk1 : (1 : Int) ≤ (k : Int) := by omega
          have hkz : ((k : Int) == 0) = false := by simp; omega
          have hkl : (k : Int) - 1 < (p.steps.length : Int) := by omega
          clear a0 a1 a2 a3 hpv hpv'
          go_wp2_with (go_at_call 22; refine (within_any _ _ _ _).mono ?_; rintro e w' ⟨rfl, rfl⟩)
          any_goals (go_ret; refine ⟨?_, by first | exact HI.out.2.2.1.alloc HI.out.2.2.1.size _ | exact (HI.out.2.2.1.alloc HI.out.2.2.1.size _).alloc (by have := HI.out.2.2.1.size; simp; omega) _⟩; first | (rw [check_not hw hlt (goodAt_badp hk0 HI.out.2.2.2 HV.out (by simp [goodPair]; omega))]; rfl) | (rw [check_not hw hlt (goodAt_bad HI.out.2.2.2 (by unfold goodStep; first | (simp [*]; done) | (rw [bnot_true (b := within st.dn 0 st.up) (by assumption)]; simp)))]; rfl))
          go_roundg (gk - 1)
          case measure => omega
          case rel => exact ⟨k + 1, by omega, by go_num, stepsOkN_succ HI.out.1 (goodAt_succ HI.out.2.2.2 HV.out (goodStep_mk (by first | assumption | exact bnot_false (by assumption)) (by first | assumption | exact bnot_false (by assumption)) (by first | assumption | exact bnot_false (by assumption)) (by first | assumption | exact bnot_false (by assumption))) (goodPair_mk (by omega) (by omega) (by omega) (by omega))), (HI.out.2.1.alloc _).alloc _⟩
      · obtain rfl : k = p.steps.length := by omega
        have HOK := Lib.hid hok
        clear hok
        go_wp2_with fail
        go_ret
        have b0 := HB.out.1
        exact ⟨by rw [check_yes hw HG.out HOK.out]; rfl, b0.trans (hK.below b0.size (by simp))⟩
end Go.Proofs.YtalcinepeofmcaaDoor
