/- Memory words shared by all walks of this seat: what a slice reads as, which blocks are kept. No program is named here. -/
import Derived.WalkKit
import Derived.WalkSpells
import Derived.WalkLawsBesides
import Derived.Lib.Hide
import Derived.Laws.OwnMore
import Derived.Below
import Derived.Maps.AppendAt
import Derived.BigQuiet
import Derived.BigRegion
import Derived.Deep.QuietTactic
import Derived.Deep.RegionLaw
import Derived.Deep.RegionWith
import Derived.Deep.DeepCutAuto
import Derived.Deep.LoopGhost
import Derived.Deep.DeepFit
import Derived.Deep.Draws
import Derived.Deep.AppendLies
import Derived.Deep.CutBlock
import Derived.Deep.RegionLawGrows
import Derived.Test.YthmldeningpjbaaRows
import Derived.ProofKit
import Derived.OpenShut
import Derived.WideKeyArgs
import Derived.ChangeSame
import Derived.SizedLaws
set_option linter.unusedVariables false
set_option linter.unusedSimpArgs false
namespace Go.Proofs.Ythmldeningpjbaa
open Go Go.RowKit



/-- The slice (A, n) reads as the cells xs, size cells an element. -/
def Rd (w : World) (size : Nat) (A : Option Addr) (n : Nat) (xs : List Value) : Prop :=
  xs.length = n * size ∧ (0 < n → ∃ b off, A = some ⟨b, off, none⟩ ∧ b < w.heap.size ∧ ∀ j u, xs[j]? = some u → w.cell? ⟨b, off + j, none⟩ = some u)

section
variable {w w' : World} {size n : Nat} {A : Option Addr} {xs : List Value}
theorem Rd.nil (w : World) (size : Nat) (A : Option Addr) : Rd w size A 0 [] := ⟨by simp, fun h => absurd h (by omega)⟩
theorem Rd.below (h : Rd w size A n xs) (hb : Below w.heap.size w w') : Rd w' size A n xs := by
  refine ⟨h.1, fun hn => ?_⟩
  obtain ⟨b, off, e, hl, hc⟩ := h.2 hn
  exact ⟨b, off, e, Nat.lt_of_lt_of_le hl hb.size, fun j u hu => (hb.cell (p := ⟨b, off + j, none⟩) hl).trans (hc j u hu)⟩
theorem Rd.below2 {w0 : World} (h : Rd w0 size A n xs) (hb : Below w0.heap.size w0 w') : Rd w' size A n xs := h.below hb
theorem Rd.one (h : Rd w 1 A n xs) {k : Nat} (hk : k < n) : ∃ b off u, A = some ⟨b, off, none⟩ ∧ b < w.heap.size ∧ xs[k]? = some u ∧ w.cell? ⟨b, off + k, none⟩ = some u := by
  obtain ⟨b, off, e, hl, hc⟩ := h.2 (by omega)
  have hx : k < xs.length := by have := h.1; omega
  exact ⟨b, off, xs[k], e, hl, List.getElem?_eq_getElem hx, hc k _ (List.getElem?_eq_getElem hx)⟩
theorem Rd.of_own {base : Nat} {e : TypeId} {c : Nat} (h : w.ownsRow base e size (.slice A n c) n xs) : Rd w size A n xs := by
  refine ⟨h.1, fun hn => ?_⟩
  obtain ⟨g, cap, hv, _, hlt⟩ := h.form hn
  have hA : A = some ⟨g, 0, none⟩ := by injection hv
  subst hA
  refine ⟨g, 0, rfl, hlt, fun j u hu => ?_⟩
  have := h.cells (g := g) rfl j u hu
  rwa [Addr.add_lit] at this
end

theorem bcell {w w' : World} (hb : Below w.heap.size w w') : (∀ b o, b < w.heap.size → w'.cell? ⟨b, o, none⟩ = w.cell? ⟨b, o, none⟩) ∧ (∀ b o, b < w.heap.size → w'.frozen? ⟨b, o, none⟩ = w.frozen? ⟨b, o, none⟩) :=
  ⟨fun b o h => hb.cell (p := ⟨b, o, none⟩) h, fun b o h => hb.frozen (p := ⟨b, o, none⟩) h⟩

/-- w' is w but for the blocks of S, and new blocks. -/
structure Keep (S : List Nat) (w w' : World) : Prop where
  os : w'.os = w.os
  tape : w'.tape = w.tape
  output : w'.output = w.output
  size : w.heap.size ≤ w'.heap.size
  block : ∀ k, k < w.heap.size → k ∉ S → w'.heap[k]? = w.heap[k]?

section
variable {S S' : List Nat} {w w' w'' : World}
theorem Keep.refl (S : List Nat) (w : World) : Keep S w w := ⟨rfl, rfl, rfl, Nat.le_refl _, fun _ _ _ => rfl⟩
theorem Keep.trans (h : Keep S w w') (k : Keep S' w' w'') (hs : ∀ x ∈ S', x ∈ S ∨ w.heap.size ≤ x) : Keep S w w'' :=
  ⟨k.os.trans h.os, k.tape.trans h.tape, k.output.trans h.output, Nat.le_trans h.size k.size, fun i hi hn =>
    (k.block i (Nat.lt_of_lt_of_le hi h.size) (fun hm => by rcases hs i hm with h1 | h1; exact hn h1; omega)).trans (h.block i hi hn)⟩
theorem Keep.mono (h : Keep S w w') (hs : ∀ x ∈ S, x ∈ S' ∨ w.heap.size ≤ x) : Keep S' w w' :=
  ⟨h.os, h.tape, h.output, h.size, fun i hi hn => h.block i hi (fun hm => by rcases hs i hm with h1 | h1; exact hn h1; omega)⟩
theorem Keep.below (h : Keep S w w') {B : Nat} (hB : B ≤ w.heap.size) (hs : ∀ x ∈ S, B ≤ x) : Below B w w' :=
  ⟨h.os, h.tape, h.output, h.size, fun i hi => h.block i (by omega) (fun hm => by have := hs i hm; omega)⟩
theorem Keep.of_below (h : Below w.heap.size w w') : Keep S w w' := ⟨h.os, h.tape, h.output, h.size, fun i hi _ => h.block i hi⟩
theorem Keep.drew (h : Keep S w w') : Keep S w w'.drew := ⟨h.os, h.tape, h.output, h.size, h.block⟩
theorem Keep.drewN (h : Keep S w w') (n : Nat) : Keep S w (w'.drewN n) := ⟨h.os, h.tape, h.output, h.size, h.block⟩
theorem Keep.alloc (h : Keep S w w') (o : Obj) : Keep S w (w'.alloc o) :=
  ⟨h.os, h.tape, h.output, by have := h.size; simp; omega, fun i hi hn => by rw [Below.heap_alloc _ _ _ (by have := h.size; omega)]; exact h.block i hi hn⟩
theorem Keep.setCell (h : Keep S w w') {p : Addr} (hp : p.block ∈ S ∨ w.heap.size ≤ p.block) (u : Value) : Keep S w (w'.setCell p u) :=
  ⟨h.os, h.tape, h.output, by have := h.size; simpa [World.setCell] using this, fun i hi hn => by
    rw [Below.heap_setCell _ _ _ _ (fun e => by subst e; rcases hp with h1 | h1; exact hn h1; omega)]; exact h.block i hi hn⟩
theorem Keep.grown (h : Keep S w w') {row : Option Nat} (hg : w'.grownBy w'' row) (hr : ∀ g, row = some g → g ∈ S ∨ w.heap.size ≤ g) : Keep S w w'' :=
  ⟨hg.os.trans h.os, hg.tape.trans h.tape, hg.output.trans h.output, Nat.le_trans h.size hg.size, fun i hi hn => by
    rw [hg.block i (by have := h.size; omega) (fun e => by rcases hr i e.symm with h1 | h1; exact hn h1; omega)]; exact h.block i hi hn⟩
end

theorem heap_set {w : World} {g : Nat} {cs : Array Value} {t : TypeId} {fr : Nat × Nat} (h : w.heap[g]? = some (.cells cs t fr)) (i : Nat) (u : Value) :
    (w.setCell ⟨g, i, none⟩ u).heap[g]? = some (.cells (cs.setIfInBounds i u) t fr) := by
  simp [World.setCell, Array.getElem?_modify, h]
theorem heap_set_ne {w : World} {g : Nat} {o : Option Obj} (h : w.heap[g]? = o) {p : Addr} (hp : g ≠ p.block) (u : Value) : (w.setCell p u).heap[g]? = o :=
  (Below.heap_setCell w p u g hp).trans h
theorem heap_lt {w : World} {g : Nat} {o : Obj} (h : w.heap[g]? = some o) : g < w.heap.size := (Array.getElem?_eq_some_iff.1 h).1
theorem heap_alloc' {w : World} {g : Nat} {o : Obj} (h : w.heap[g]? = some o) (o' : Obj) : (w.alloc o').heap[g]? = some o := (Below.heap_alloc w o' g (heap_lt h)).trans h
theorem frozen_of_heap {w : World} {g : Nat} {cs : Array Value} {t : TypeId} (h : w.heap[g]? = some (.cells cs t (0, 0))) (i : Nat) : w.frozen? ⟨g, i, none⟩ = false := by simp [World.frozen?, h]
theorem cell_of_heap {w : World} {g : Nat} {cs : Array Value} {t : TypeId} {fr : Nat × Nat} (h : w.heap[g]? = some (.cells cs t fr)) (i : Nat) : w.cell? ⟨g, i, none⟩ = cs[i]? := cell_of_row w g i cs t fr h

/-- A slice value (A, n, c) of one-cell elements, nil or in a block of its own (perhaps not from the block's head): fp: its block. It may be appended to in place. -/
def OwnA (w : World) (e : TypeId) (A : Option Addr) (n c : Nat) (xs : List Value) (fp : List Nat) : Prop :=
  xs.length = n ∧ ((A = none ∧ n = 0 ∧ c = 0 ∧ fp = []) ∨
    ∃ g off cur, A = some ⟨g, off, none⟩ ∧ fp = [g] ∧ w.heap[g]? = some (.cells cur e (0, 0)) ∧ n ≤ c ∧ c ≤ 9223372036854775807 ∧ off + c = cur.size ∧ ∀ j u, xs[j]? = some u → cur[off + j]? = some u)

section
variable {w w' : World} {e : TypeId} {A : Option Addr} {n c : Nat} {xs : List Value} {fp : List Nat}
theorem OwnA.lt (h : OwnA w e A n c xs fp) : ∀ g ∈ fp, g < w.heap.size := by
  intro g hg
  rcases h.2 with ⟨_, _, _, rfl⟩ | ⟨g', off, cur, rfl, rfl, hh, _⟩
  · simp at hg
  · obtain rfl : g = g' := by simpa using hg
    exact heap_lt hh
theorem OwnA.ge (h : OwnA w e A n c xs fp) : n ≤ c := by
  rcases h.2 with ⟨_, rfl, rfl, _⟩ | ⟨g', off, cur, rfl, rfl, hh, h1, _⟩ <;> omega
theorem OwnA.keepS {S : List Nat} (h : OwnA w e A n c xs fp) (hk : Keep S w w') (hd : ∀ g ∈ fp, g ∉ S) : OwnA w' e A n c xs fp := by
  refine ⟨h.1, ?_⟩
  rcases h.2 with h0 | ⟨g, off, cur, rfl, rfl, hh, r⟩
  · exact .inl h0
  · exact .inr ⟨g, off, cur, rfl, rfl, (hk.block g (heap_lt hh) (hd g (by simp))).trans hh, r⟩
theorem OwnA.alloc (h : OwnA w e A n c xs fp) (o : Obj) : OwnA (w.alloc o) e A n c xs fp := h.keepS ((Keep.refl [] w).alloc o) (by simp)
theorem OwnA.drewN (h : OwnA w e A n c xs fp) (k : Nat) : OwnA (w.drewN k) e A n c xs fp := h
theorem OwnA.setCell {p : Addr} (h : OwnA w e A n c xs fp) (hp : p.block ∉ fp) (u : Value) : OwnA (w.setCell p u) e A n c xs fp :=
  h.keepS ((Keep.refl [p.block] w).setCell (.inl (by simp)) u) (by simp; rintro g hg rfl; exact hp hg)
theorem OwnA.nil (w : World) (e : TypeId) : OwnA w e none 0 0 [] [] := ⟨rfl, .inl ⟨rfl, rfl, rfl, rfl⟩⟩
/-- cut to its first k elements -/
theorem OwnA.take (h : OwnA w e A n c xs fp) {k : Nat} (hk : k ≤ n) : OwnA w e A k c (xs.take k) fp := by
  refine ⟨by rw [List.length_take, h.1]; omega, ?_⟩
  rcases h.2 with ⟨a, b, c', d⟩ | ⟨g, off, cur, rfl, rfl, hh, h1, h2, h3, h4⟩
  · exact .inl ⟨a, by omega, c', d⟩
  · refine .inr ⟨g, off, cur, rfl, rfl, hh, by omega, h2, h3, fun j u hu => h4 j u ?_⟩
    rw [List.getElem?_take] at hu
    split at hu
    · exact hu
    · cases hu
theorem OwnA.some_ (h : OwnA w e A n c xs fp) (hn : 0 < n) : ∃ g off, A = some ⟨g, off, none⟩ ∧ fp = [g] ∧ g < w.heap.size ∧ (∀ j u, xs[j]? = some u → w.cell? ⟨g, off + j, none⟩ = some u) ∧ (∀ j, w.frozen? ⟨g, j, none⟩ = false) := by
  rcases h.2 with ⟨_, h0, _⟩ | ⟨g, off, cur, rfl, rfl, hh, h1, h2, h3, h4⟩
  · omega
  · exact ⟨g, off, rfl, rfl, heap_lt hh, fun j u hu => (cell_of_heap hh _).trans (h4 j u hu), fun j => frozen_of_heap hh j⟩
theorem OwnA.rd (h : OwnA w e A n c xs fp) : Rd w 1 A n xs := by
  refine ⟨by rw [h.1]; omega, fun hn => ?_⟩
  obtain ⟨g, off, e, _, hl, hc, _⟩ := h.some_ hn
  exact ⟨g, off, e, hl, hc⟩
/-- without its first element -/
theorem OwnA.tail {g off : Nat} (h : OwnA w e (some ⟨g, off, none⟩) n c xs fp) (hn : 1 < n) : OwnA w e (some ⟨g, off + 1, none⟩) (n - 1) (c - 1) xs.tail fp := by
  refine ⟨by rw [List.length_tail, h.1], .inr ?_⟩
  rcases h.2 with ⟨h0, _⟩ | ⟨g', off', cur, he, rfl, hh, h1, h2, h3, h4⟩
  · cases h0
  · injection he with he
    injection he with e1 e2 _
    subst e1 e2
    refine ⟨g, off + 1, cur, rfl, rfl, hh, by omega, by omega, by omega, fun j u hu => ?_⟩
    rw [List.getElem?_tail] at hu
    have := h4 (j + 1) u hu
    rwa [show off + (j + 1) = off + 1 + j from by omega] at this

variable {P : Program}
theorem setCells_one (w : World) (b off : Nat) (u : Value) : w.setCells b off [u] = w.setCell ⟨b, off, none⟩ u := by
  simp [World.setCells]
/-- append of one element onto such a slice -/
theorem run_append_A (t ty : TypeId) (i : TypeInfo) (z : Value) (bytes : Nat) (ht : P.underlying t = some (.slice e)) (hi : P.info? e = some i) (hz : i.zero = some z)
    (hsize : i.size = 1) (hby : i.bytes = bytes) (hzs : z.cells.size = 1) (hown : OwnA w e A n c xs fp) (ad : Addr) (u : Value) (hu : w.cell? ad = some u) (h1 : u.oneCell' = true)
    (hn : n + 1 ≤ 1000000000000) (hbytes : bytes ≤ 100) :
    ∃ g off c' w', (Builtin.append_ #[t, t] ty #[.slice A n c, .slice (some ad) 1 1]).run P w = .ok (.slice (some ⟨g, off, none⟩) (n + 1) c') w' ∧
      OwnA w' e (some ⟨g, off, none⟩) (n + 1) c' (xs ++ [u]) [g] ∧ (g ∈ fp ∨ w.heap.size = g) ∧ g < w'.heap.size ∧ Keep fp w w' := by
  subst hby
  have hb1 : (n + 1) * i.bytes ≤ 140737488355328 := Nat.le_trans (Nat.mul_le_mul hn hbytes) (by decide)
  have hnews : ∀ j v, [u][j]? = some v → w.cell? (ad.add j) = some v := by
    intro j v hv
    cases j with
    | zero => simpa [Addr.add] using (by simpa using hv : u = v) ▸ hu
    | succ j => simp at hv
  have hl : [u].length = 1 * i.size := by simp [hsize]
  have h1' : ∀ v ∈ [u], v.oneCell' = true := by simpa using h1
  have hmx : n + 1 ≤ maxLen := by simp only [maxLen]; omega
  -- the new block
  have grown : ∀ (old : Nat) (olds : List Value), olds = xs → 
      OwnA (w.drew.alloc (.cells (olds.toArray ++ [u].toArray ++ Builtin.zeroCells z.cells (grownCap w (n + 1) old e - (n + 1))) e)) e (some ⟨w.heap.size, 0, none⟩) (n + 1) (grownCap w (n + 1) old e) (xs ++ [u]) [w.heap.size] := by
    rintro old olds rfl
    have hge := grownCap_ge w (n + 1) old e
    have hcm : grownCap w (n + 1) old e ≤ maxLen := grownCap_le_maxLen w (n + 1) old e hmx
    simp only [maxLen] at hcm
    refine ⟨by simp [hown.1], .inr ⟨_, 0, _, rfl, rfl, heap_alloc_new w.drew _, hge, hcm, ?_, ?_⟩⟩
    · simp only [Array.size_append, List.size_toArray, size_zeroCells, hzs, hown.1, List.length_singleton]
      omega
    · intro j v hv
      have hlt : j < (olds ++ [u]).length := (List.getElem?_eq_some_iff.1 hv).1
      rw [Nat.zero_add, Array.getElem?_append_left (by simpa using hlt)]
      simpa using hv
  have hkeep : ∀ o : Obj, Keep fp w (w.drew.alloc o) := fun o => ((Keep.refl fp w).drew).alloc o
  rcases hown.2 with ⟨rfl, rfl, rfl, rfl⟩ | ⟨g, off, cur, rfl, rfl, hh, hnc, hcm, hcs, hat⟩
  · have hx : xs = [] := List.eq_nil_of_length_eq_zero hown.1
    subst hx
    have hr := run_append_nil (P := P) w t ty e i z ht hi hz ad 1 1 [u] hl hnews (by omega) (by omega) (by simp at hb1; omega)
    have hg := grown 0 [] rfl
    simp only [Nat.zero_add, List.nil_append, Array.empty_append] at hg ⊢
    exact ⟨_, 0, _, _, hr, hg, .inr rfl, by simp, hkeep _⟩
  · by_cases hroom : n + 1 ≤ c
    · have hlt : off + n < cur.size := by omega
      have hr := run_append_room_cells (P := P) w t ty e i ht hi g off n c ad 1 1 [u] hl hnews h1' hroom (by
        intro j hj
        obtain rfl : j = 0 := by simpa using hj
        have hlt' : off + n * i.size + 0 < cur.size := by rw [hsize]; omega
        rw [cell_of_heap hh, Array.getElem?_eq_getElem hlt']
        rfl) (by intro j hj; exact frozen_of_heap hh _)
      refine ⟨g, off, c, _, hr, ⟨by simp [hown.1], .inr ⟨g, off, cur.setIfInBounds (off + n) u, rfl, rfl, ?_, hroom, hcm, by simp [hcs], ?_⟩⟩, .inl (by simp), ?_, ?_⟩
      · rw [setCells_one, hsize, Nat.mul_one]
        exact heap_set hh _ _
      · intro j v hv
        rw [List.getElem?_append] at hv
        split at hv
        · rename_i hj
          rw [Array.getElem?_setIfInBounds_ne (by have := hown.1; omega)]
          exact hat j v hv
        · rename_i hj
          have hj2 : j = n := by
            have h5 := (List.getElem?_eq_some_iff.1 hv).1
            have h6 := hown.1
            simp at h5
            omega
          subst hj2
          have h7 : u = v := by simpa [hown.1] using hv
          subst h7
          simp [hlt]
      · rw [setCells_one]
        have := heap_lt hh
        simpa [World.setCell] using this
      · rw [setCells_one]
        exact (Keep.refl _ _).setCell (.inl (by simp)) _
    · have holds : ∀ j v, xs[j]? = some v → w.cell? ((⟨g, off, none⟩ : Addr).add j) = some v := by
        intro j v hv
        rw [show (⟨g, off, none⟩ : Addr).add j = ⟨g, off + j, none⟩ from by simp [Addr.add]]
        exact (cell_of_heap hh _).trans (hat j v hv)
      have hr := run_append_grow (P := P) w t ty e i z ht hi hz ⟨g, off, none⟩ n c xs (by simp [hown.1, hsize]) holds ad 1 1 [u] hl hnews (by omega) (by omega) (growslice_fits (by omega) hb1)
      exact ⟨_, 0, _, _, hr, grown c xs rfl, .inr rfl, by simp, hkeep _⟩

/-- at an operation -/
theorem wp_append_A {o : Oper} {a : Act} {K : Act → World → Prop} {Q : Exit → Act → World → Prop} (s x : Operand) (t : TypeId)
    (ho : o.op = .call { callee := .builtin .append, args := #[s, x], argTypes := #[t, t] })
    (i : TypeInfo) (z : Value) (bytes : Nat) (ht : P.underlying t = some (.slice e)) (hi : P.info? e = some i) (hz : i.zero = some z)
    (hsize : i.size = 1) (hby : i.bytes = bytes) (hzs : z.cells.size = 1) (hs : a.eval s = .slice A n c) (ad : Addr) (hx : a.eval x = .slice (some ad) 1 1)
    (u : Value) (hown : OwnA w e A n c xs fp) (hu : w.cell? ad = some u) (h1 : u.oneCell' = true)
    (hn : n + 1 ≤ 1000000000000) (hbytes : bytes ≤ 100)
    (h : ∀ g off c' w', OwnA w' e (some ⟨g, off, none⟩) (n + 1) c' (xs ++ [u]) [g] → (g ∈ fp ∨ w.heap.size = g) → g < w'.heap.size → Keep fp w w' → K (a.put o.dst (.slice (some ⟨g, off, none⟩) (n + 1) c')) w') : o.wp P a w K Q := by
  obtain ⟨g, off, c', w', hr, h2, h3, h4, h5⟩ := run_append_A (P := P) t o.type i z bytes ht hi hz hsize hby hzs hown ad u hu h1 hn hbytes
  unfold Oper.wp execOp
  simp only [ho, resolve, invoke, builtin, Sem.run_bind, Sem.run_pure, Result.andThen_ok, List.map_toArray, List.map_cons, List.map_nil, hs, hx, hr]
  exact h g off c' w' h2 h3 h4 h5

theorem wpList_append_A {ops : Array Oper} {rest : List Oper} {o : Oper} {a : Act} {Q : Exit → Act → World → Prop} (hgd : o.guard = none) (s x : Operand) (t : TypeId)
    (ho : o.op = .call { callee := .builtin .append, args := #[s, x], argTypes := #[t, t] })
    (i : TypeInfo) (z : Value) (bytes : Nat) (ht : P.underlying t = some (.slice e)) (hi : P.info? e = some i) (hz : i.zero = some z)
    (hsize : i.size = 1) (hby : i.bytes = bytes) (hzs : z.cells.size = 1) (hs : a.eval s = .slice A n c) (ad : Addr) (hx : a.eval x = .slice (some ad) 1 1)
    (u : Value) (hown : OwnA w e A n c xs fp) (hu : w.cell? ad = some u) (h1 : u.oneCell' = true)
    (hn : n + 1 ≤ 1000000000000) (hbytes : bytes ≤ 100)
    (h : ∀ g off c' w', OwnA w' e (some ⟨g, off, none⟩) (n + 1) c' (xs ++ [u]) [g] → (g ∈ fp ∨ w.heap.size = g) → g < w'.heap.size → Keep fp w w' → wpList P ops Q rest (a.put o.dst (.slice (some ⟨g, off, none⟩) (n + 1) c')) w') : wpList P ops Q (o :: rest) a w :=
  wpList_plain hgd fun _ hK => wp_append_A s x t ho i z bytes ht hi hz hsize hby hzs hs ad hx u hown hu h1 hn hbytes fun g off c' w' h2 h3 h4 h5 => hK _ _ (h g off c' w' h2 h3 h4 h5)

theorem step_append_A {ops : Array Oper} {o : Oper} {a : Act} {K : Act → World → Prop} {Q : Exit → Act → World → Prop} {E : Prop} (hgd : o.guard = none) (s x : Operand) (t : TypeId)
    (ho : o.op = .call { callee := .builtin .append, args := #[s, x], argTypes := #[t, t] })
    (i : TypeInfo) (z : Value) (bytes : Nat) (ht : P.underlying t = some (.slice e)) (hi : P.info? e = some i) (hz : i.zero = some z)
    (hsize : i.size = 1) (hby : i.bytes = bytes) (hzs : z.cells.size = 1) (hs : a.eval s = .slice A n c) (ad : Addr) (hx : a.eval x = .slice (some ad) 1 1)
    (u : Value) (hown : OwnA w e A n c xs fp) (hu : w.cell? ad = some u) (h1 : u.oneCell' = true)
    (hn : n + 1 ≤ 1000000000000) (hbytes : bytes ≤ 100)
    (h : ∀ g off c' w', OwnA w' e (some ⟨g, off, none⟩) (n + 1) c' (xs ++ [u]) [g] → (g ∈ fp ∨ w.heap.size = g) → g < w'.heap.size → Keep fp w w' → K (a.put o.dst (.slice (some ⟨g, off, none⟩) (n + 1) c')) w') :
    if Region.wanted o (yielded ops a.tmps) = true then Oper.wp P o a w K Q else E := by
  have hw : Region.wanted o (yielded ops a.tmps) = true := by simp [Region.wanted, hgd]
  rw [if_pos hw]
  exact wp_append_A s x t ho i z bytes ht hi hz hsize hby hzs hs ad hx u hown hu h1 hn hbytes h
end

end Go.Proofs.Ythmldeningpjbaa
/- The step from a law's contract to its row, for arguments of any readable types: nothing below the heap's old size has turned, so each argument reads as it did. -/
namespace Go.Proofs.Ythmldeningpjbaa
open Go.ChangeShapes Go.WideShapes Go.ChangeAt Go.RowKit

theorem own : ownKnob Try.prog.godebug = none := by kernel_rfl
theorem laidOut : laidOutB Try.prog = true := by kernel_rfl

section
variable {H : Type} {enc : TypeId × Value → H} {P : Program}
theorem trodAll_stays (hl : laidOutB P = true) {W W' : World} {sp' : Nat → Bool} : ∀ {ts : List TypeId} {vs : List Value} {ds : List (DataW H)} {ps : List MemPlace}, ts.all (fun t => P.readableRec t && decide (t < P.types.size)) = true →
    DataW.TrodAll enc P W 0 (fun _ => true) true ts vs ds ps → (∀ p ∈ ps, W.sameAt W' p) → (∀ p ∈ ps, sp' p.block = true) → DataW.TrodAll enc P W' 0 sp' true ts vs ds ps
  | [], [], [], ps, _, h, _, _ => h
  | t :: ts, v :: vs, d :: ds, ps, hr, h, hsame, hs => by
    obtain ⟨p, q, h1, h2, rfl⟩ := h
    simp only [List.all_cons, Bool.and_eq_true, decide_eq_true_eq] at hr
    exact ⟨p, q, WideElems.Trod_stays hl hr.1.1 hr.1.2 h1 (fun x hx => hsame x (by simp [hx])) (fun x hx => hs x (by simp [hx])),
      trodAll_stays hl hr.2 h2 (fun x hx => hsame x (by simp [hx])) (fun x hx => hs x (by simp [hx])), rfl⟩

theorem law_post (hl : laidOutB P = true) {f : Func} {s : ChangeSpec} {fresh handsOn again : Bool} {W W' : World} {args : Array Value} {ds gs : List (DataW H)} {before : List MemPlace} {tb : TypeId}
    (hr : f.params.toList.all (fun t => P.readableRec t && decide (t < P.types.size)) = true) (hres : f.resultTypes = #[tb]) (htb : P.underlying tb = some .bool) (hvars : s.vars = []) (hs : s.fn H ds = { results := [.lit (.bool true)], args := ds })
    (hW : DataW.Whole enc P f.params.toList s.vars false W args.toList ds gs before) (hb : Below W.heap.size W W') :
    s.post enc P f false fresh handsOn again W args (.bool true) W' := by
  have hlt : ∀ p ∈ before, p.block < W.heap.size := fun p hp => hW.lt p hp
  have hW0 := hW
  obtain ⟨pa, pv, hA, hV, hps, hz, hn⟩ := hW
  rw [hvars] at hV
  obtain ⟨rfl, rfl⟩ := trodVars_none hV
  have hfn : s.fn H (ds ++ []) = { results := [.lit (.bool true)], args := ds } := by rw [List.append_nil]; exact hs
  have hargs : ∀ sp : Nat → Bool, (∀ p ∈ before, sp p.block = true) → DataW.TrodAll enc P W' 0 sp true f.params.toList args.toList ds pa := fun sp hsp =>
    trodAll_stays hl hr hA (fun p hp => hb.same (hlt p (by rw [hps]; simp [hp]))) (fun p hp => hsp p (by rw [hps]; simp [hp]))
  have hr1 : ∀ (b : Nat) (sp : Nat → Bool) (hd : Bool), DataW.TrodAll enc P W' b sp hd f.resultTypes.toList ((Value.bool true).resultList f.resultTypes.size) [.lit (.bool true)] [] := fun b sp hd => by
    rw [hres]; exact (trodAll_cons_mk (shut_bool htb _) trodAll_mk0)
  have hold : ∀ p ∈ before, (fun b => decide (b < W.heap.size)) p.block = true := fun p hp => by simpa using hlt p hp
  have hvr : ∀ sp : Nat → Bool, DataW.TrodVars enc P W' sp s.vars [] [] := fun sp => by rw [hvars]; rfl
  refine ⟨ds, [], before, [], pa, [], hW0, ?_, ?_, ?_, World.keptBut_mono (fun p hp => ⟨hp, ?_⟩) (hb.frame (· ∈ before)), fun _ => ?_⟩
  · rw [hfn]; exact hr1 _ _ _
  · rw [hfn]; exact hargs _ hold
  · rw [hfn]; exact hvr _
  · rw [hps, List.append_nil] at hp
    exact Or.inr (by simpa using hp)
  · refine ⟨ok_one hres rfl (okWide_bool_mk htb _), [.lit (.bool true)] ++ ds, [], ([] ++ pa) ++ [], ⟨[] ++ pa, [], ?_, hvr _, rfl, ?_, ?_⟩, ?_⟩
    · exact trodAll_append (hargs _ (fun _ _ => rfl)) (hr1 _ _ _)
    · intro b off hp
      have hin : MemPlace.cell b off ∈ before := by rw [hps]; simpa using hp
      rw [hb.frozen (hlt _ hin)]
      exact hz b off hin
    · intro ha
      cases ha
    · intro p hp _
      rw [hps]
      simpa using hp
end

section
variable {H : Type} {enc : TypeId × Value → H} {P : Program} {W : World}
/-- an argument that is a slice of integers reads as a list -/
theorem open_intsR {r : Reach} {b0 : Nat} {t e : TypeId} {k : IntKind} {v : Value} {d : DataW H} {ps : List MemPlace} (ht : P.underlying t = some (.slice e)) (he : P.underlying e = some (.int k)) (hc1 : P.cellsOf e = 1)
    (hval : Value.okWide P W r b0 t v) (hd : DataW.Trod enc P W 0 (fun _ => true) true t v d ps) :
    ∃ (A : Option Addr) (c : Nat) (l : List Int), v = .slice A l.length c ∧ Rd W 1 A l.length (l.map (Value.int k)) ∧ (∀ x ∈ l, (Lit.int k x).wf = true) ∧ l.length ≤ c ∧ c ≤ 9223372036854775807 ∧ (d = .nil ∧ l = [] ∨ ∃ rest, d = .slice (lits k l) rest) := by
  obtain ⟨a, len, cap, rfl⟩ := okWide_slice ht hval
  obtain ⟨fuel, hf⟩ := hd
  rcases open_ints ht he hc1 hf with ⟨hv, hx⟩ | ⟨a', len', cap', zs, hv, hb, hl, hm, hz, hx, hc, hw⟩
  · simp [Value.cells] at hv
    obtain ⟨rfl, rfl, rfl⟩ := hv
    simp only [Prod.mk.injEq] at hx
    exact ⟨none, 0, [], rfl, Rd.nil _ _ _, by simp, by simp, by omega, .inl ⟨hx.1, rfl⟩⟩
  · simp [Value.cells] at hv
    obtain ⟨rfl, rfl, rfl⟩ := hv
    simp only [Prod.mk.injEq] at hx
    simp only [if_true] at hz
    have hll : (zs.take len).length = len := by rw [List.length_take]; omega
    unfold maxLen at hm
    refine ⟨some a', cap, zs.take len, by rw [hll], ?_, fun x hx => hw x (List.mem_of_mem_take hx), by omega, hm, .inr ⟨_, hx.1⟩⟩
    rw [hll]
    refine ⟨by rw [List.length_map, hll]; omega, fun hn => ?_⟩
    obtain ⟨b, off, spot⟩ := a'
    have hspot : spot = none := by simpa [Addr.add] using World.cell?_spot (hc 0 (by omega))
    subst hspot
    have h0 := hc 0 (by omega)
    rw [add_plain] at h0
    refine ⟨b, off, rfl, World.block_lt_of_cell? _ _ h0, fun j u hu => ?_⟩
    have hj : j < len := by
      have := (List.getElem?_eq_some_iff.1 hu).1
      rw [List.length_map, hll] at this
      exact this
    have h1 := hc j (by omega)
    rw [add_plain] at h1
    rw [h1, ← hu, List.getElem?_map, List.getElem?_take_of_lt hj, List.getD_eq_getElem?_getD, List.getElem?_eq_getElem (by omega)]
    rfl
/-- the form's own reach: what is read takes less than 2^47 bytes -/
theorem reach_of {ts : List TypeId} {ds : List (DataW H)} {j : Nat} {t e : TypeId} {k : IntKind} {d : DataW H} {l : List Int} (h : (DataW.weightsEach P ts ds).all (· ≤ reachBytes) = true) (ht : ts[j]? = some t) (hd : ds[j]? = some d) (hu : P.underlying t = some (.slice e)) (hb : 1 ≤ P.bytesOf e)
    (hs : d = .nil ∧ l = [] ∨ ∃ rest, d = .slice (lits k l) rest) : l.length ≤ 140737488351232 := by
  rcases hs with ⟨_, rfl⟩ | ⟨rest, rfl⟩
  · simp
  · have h1 := sized_slice h ht hd hu
    have h2 : l.length ≤ (l.length + rest.length) * P.bytesOf e := Nat.le_trans (Nat.le_add_right _ _) (Nat.le_mul_of_pos_right _ hb)
    simp only [lits, List.length_map, reachBytes] at h1
    omega
theorem wf_u8 {x : Int} (h : (Lit.int .u8 x).wf = true) : 0 ≤ x ∧ x ≤ 255 := by simpa [Lit.wf, IntKind.min, IntKind.max, IntKind.signed, IntKind.bits] using h
theorem wf_u16 {x : Int} (h : (Lit.int .u16 x).wf = true) : 0 ≤ x ∧ x ≤ 65535 := by simpa [Lit.wf, IntKind.min, IntKind.max, IntKind.signed, IntKind.bits] using h
end
end Go.Proofs.Ythmldeningpjbaa
/- What the functions of layer 8 compute, as plain Lean functions over whole numbers. No program is named here. -/
namespace Go.Proofs.Ythmldeningpjbaa.Sp

def within (n lo hi : Int) : Bool := decide (lo ≤ n) && decide (n ≤ hi)

structure Stp where
  cls : Int
  ton : Int
  up : Int
  dn : Int
deriving DecidableEq, Inhabited

structure Pol where
  steps : List Stp
  hold : Int
  calm : Int
  notice : Int
  grace : Int

/-- the greatest index (below n) whose number is at most sev; else 0 -/
def upToN (l : List Int) (sev : Int) : Nat → Int
  | 0 => 0
  | n + 1 => if l.getD n 0 ≤ sev then (n : Int) else upToN l sev n

def upTo (l : List Int) (sev : Int) : Int := upToN l sev l.length

structure Ves where
  cls : Int
  ton : Int
  esc : Bool
deriving DecidableEq, Inhabited

def vright (v : Ves) : Bool := within v.cls 0 6 && within v.ton 0 500000
def fulfils (v : Ves) (s : Stp) : Bool := decide (s.cls ≤ (if v.esc then v.cls + 1 else v.cls)) && decide (s.ton ≤ v.ton)

/-- how many of the first k stay when those at the end that can no longer be the first one are dropped -/
def popLen (gr : Bool) (x : Int) (V : List Int) : Nat → Nat
  | 0 => 0
  | k + 1 => if (V.getD k 0 == x) || (decide (x < V.getD k 0) != gr) then popLen gr x V k else k + 1

def headV (D : List (Int × Int)) : Int := (D.headD (0, 0)).1

/-- the numbers that a window keeps, and when they came, behind the next one -/
def pushD (wide at_ : Int) (gr : Bool) (D : List (Int × Int)) (x : Int) : List (Int × Int) :=
  let D1 := D.take (popLen gr x (D.map (·.1)) D.length) ++ [(x, at_)]
  if (D1.headD (0, 0)).2 ≤ at_ - wide then D1.tail else D1

end Go.Proofs.Ythmldeningpjbaa.Sp
/- What the functions of layer 9 compute, as plain Lean functions over whole numbers. No program is named here. -/
namespace Go.Proofs.Ythmldeningpjbaa.Pt
open Sp

structure Chn where
  grow : Int
  frost : Int
  clear : Int
deriving DecidableEq, Inhabited
structure Cal where
  hour : Int
  berth : Int
  out : Bool
  draught : Int
  most : Int
  tugs : Int
deriving DecidableEq, Inhabited
structure Swp where
  hour : Int
  channel : Int
  tugs : Int
deriving DecidableEq, Inhabited
structure Mp where
  add : Int
  floor : Int
  most : Int
deriving DecidableEq, Inhabited
structure Vst where
  arr : Int
  last : Int
  stay : Int
  dra : Int
deriving DecidableEq, Inhabited
structure Plc where
  berth : Int
  start : Int
deriving DecidableEq, Inhabited
abbrev NL : Int := 1000000000
abbrev BIG : Int := 100000000

/-- a map is one -/
def mright (m : Mp) : Bool := within m.add (-BIG) BIG && within m.floor 0 BIG && (within m.most (-1) BIG || decide (m.most = NL))
def applyE (m : Mp) (b : Int) : Int := if mright m = false then 1 else if within b 0 BIG = false then 6 else if m.most < b then 8 else 0
def applyN (m : Mp) (b : Int) : Int := if applyE m b = 0 then max (b + m.add) m.floor else 0
def joinL (a m : Mp) : Int := if a.most < 0 ∨ m.most < 0 ∨ (m.most ≠ NL ∧ m.most < a.floor) then -1 else if m.most ≠ NL then max (-1) (min a.most (m.most - a.add)) else a.most
def join1 (a m : Mp) : Mp := ⟨a.add + m.add, max (a.floor + m.add) m.floor, joinL a m⟩
def joinE (a b : Mp) : Int := if mright a = false ∨ mright b = false then 1 else if mright (join1 a b) = false then 6 else 0
def joinV (a b : Mp) : Mp := if joinE a b = 0 then join1 a b else ⟨0, 0, 0⟩
/-- a map of PortJoins -/
def small (m : Mp) : Prop := -200 ≤ m.add ∧ m.add ≤ 200 ∧ 0 ≤ m.floor ∧ m.floor ≤ 255 ∧ (m.most = -1 ∨ m.most = NL ∨ (0 ≤ m.most ∧ m.most ≤ 255))

theorem mright_iff {m : Mp} : mright m = true ↔ (-BIG ≤ m.add ∧ m.add ≤ BIG ∧ 0 ≤ m.floor ∧ m.floor ≤ BIG ∧ ((-1 ≤ m.most ∧ m.most ≤ BIG) ∨ m.most = NL)) := by
  simp [mright, within]; omega
theorem joinL_cases (a m : Mp) : (joinL a m = -1 ∧ (a.most < 0 ∨ m.most < 0 ∨ (m.most ≠ NL ∧ m.most < a.floor))) ∨
    ((0 ≤ a.most ∧ 0 ≤ m.most ∧ (m.most = NL ∨ a.floor ≤ m.most)) ∧ ((m.most ≠ NL ∧ ((a.most ≤ m.most - a.add ∧ joinL a m = a.most) ∨ (m.most - a.add < a.most ∧ -1 ≤ m.most - a.add ∧ joinL a m = m.most - a.add) ∨ (m.most - a.add < a.most ∧ m.most - a.add < -1 ∧ joinL a m = -1))) ∨ (m.most = NL ∧ joinL a m = a.most))) := by
  unfold joinL
  split
  · left; omega
  · right
    split
    · omega
    · omega
theorem join_small {a b : Mp} (ha : small a) (hb : small b) : mright a = true ∧ mright b = true ∧ mright (join1 a b) = true := by
  obtain ⟨a1, a2, a3, a4, a5⟩ := ha
  obtain ⟨b1, b2, b3, b4, b5⟩ := hb
  simp only [mright_iff, join1, NL, BIG] at *
  have := joinL_cases a b
  simp only [NL] at this
  omega
theorem joinL_lim {a m : Mp} (ha : -1 ≤ a.most) (hm : -1 ≤ m.most) {n : Int} (hn : 0 ≤ n) : n ≤ joinL a m ↔ (n ≤ a.most ∧ 0 ≤ m.most ∧ (m.most = NL ∨ (n + a.add ≤ m.most ∧ a.floor ≤ m.most))) := by
  have := joinL_cases a m
  simp only [NL] at *
  omega
theorem joinL_ge {a m : Mp} (ha : -1 ≤ a.most) : -1 ≤ joinL a m := by
  have := joinL_cases a m
  have := ha
  omega
theorem joinL_le {a m : Mp} (ha : -1 ≤ a.most) : joinL a m ≤ a.most := by
  have := joinL_cases a m
  omega
theorem eq_of_lims {p q : Int} (hp : -1 ≤ p) (hq : -1 ≤ q) (h : ∀ n, 0 ≤ n → (n ≤ p ↔ n ≤ q)) : p = q := by
  rcases Int.lt_trichotomy p q with h1 | h1 | h1
  · have := (h q (by omega)).2 (by omega); omega
  · exact h1
  · have := (h p (by omega)).1 (by omega); omega
/-- joining is associative as long as no Most that is a number is NoLimit -/
theorem joinL_assoc {a b c : Mp} (ha : -1 ≤ a.most) (hb : -1 ≤ b.most) (hc : -1 ≤ c.most) (fa : 0 ≤ a.floor) (fb : 0 ≤ b.floor)
    (hs : -BIG ≤ b.add) (hm : c.most = NL ∨ c.most ≤ BIG) (hq : joinL b c = NL ↔ (b.most = NL ∧ c.most = NL)) : joinL (join1 a b) c = joinL a (join1 b c) := by
  refine eq_of_lims (joinL_ge (joinL_ge ha)) (joinL_ge ha) fun n hn => ?_
  rw [joinL_lim (joinL_ge ha) hc hn, joinL_lim ha (joinL_ge hb) hn]
  have e1 := joinL_lim ha hb hn
  have e2 : ∀ k : Int, 0 ≤ k → _ := fun k hk => joinL_lim hb hc (n := k) hk
  have e3 := e2 (max (n + a.add) a.floor) (by omega)
  have e4 := e2 0 (by omega)
  have e5 := joinL_ge (m := c) hb
  have e6 := e2 a.floor fa
  simp only [join1] at *
  rw [e1, hq]
  generalize joinL b c = q at *
  generalize joinL a b = p at *
  clear e1
  simp only [NL, BIG] at *
  omega
theorem join_assoc {a b c : Mp} (ha : small a) (hb : small b) (hc : small c) : join1 (join1 a b) c = join1 a (join1 b c) ∧ mright (join1 (join1 a b) c) = true := by
  obtain ⟨a1, a2, a3, a4, a5⟩ := ha
  obtain ⟨b1, b2, b3, b4, b5⟩ := hb
  obtain ⟨c1, c2, c3, c4, c5⟩ := hc
  have e : joinL (join1 a b) c = joinL a (join1 b c) := by
    refine joinL_assoc (by simp only [NL] at *; omega) (by simp only [NL] at *; omega) (by simp only [NL] at *; omega) a3 b3 (by simp only [BIG]; omega) (by simp only [NL, BIG] at *; omega) ?_
    have := joinL_cases b c
    simp only [NL] at *
    omega
  refine ⟨?_, ?_⟩
  · simp only [join1] at e ⊢
    rw [e]
    congr 1
    · omega
    · omega
  · have h1 := joinL_cases a b
    have h3 := joinL_cases (join1 a b) c
    rw [mright_iff]
    simp only [join1, NL, BIG] at *
    refine ⟨by omega, by omega, by omega, by omega, ?_⟩
    clear e
    omega
/-- what a joined map does is what the two do -/
theorem apply_join {a b : Mp} (ha : small a) (hb : small b) {n : Int} (h0 : 0 ≤ n) (h1 : n < 600) :
    (applyE a n ≠ 0 → applyE a n = 8 ∧ applyE (join1 a b) n = 8) ∧ (applyE a n = 0 → applyE b (applyN a n) = applyE (join1 a b) n ∧ (applyE b (applyN a n) = 0 → applyN b (applyN a n) = applyN (join1 a b) n)) := by
  obtain ⟨r1, r2, r3⟩ := join_small ha hb
  obtain ⟨a1, a2, a3, a4, a5⟩ := ha
  obtain ⟨b1, b2, b3, b4, b5⟩ := hb
  have w1 : within n 0 BIG = true := by simp [within, BIG]; omega
  have w2 : within (max (n + a.add) a.floor) 0 BIG = true := by simp only [within, BIG, Bool.and_eq_true, decide_eq_true_eq]; omega
  have hl := joinL_lim (a := a) (m := b) (by simp only [NL] at *; omega) (by simp only [NL] at *; omega) h0
  have ea : applyE a n = if a.most < n then 8 else 0 := by unfold applyE; rw [r1, w1]; simp
  have eab : applyE (join1 a b) n = if joinL a b < n then 8 else 0 := by unfold applyE; rw [r3, w1]; simp only [join1]; rfl
  rw [ea, eab]
  refine ⟨fun h => ?_, fun h => ?_⟩
  · split at h
    · rename_i h2
      rw [if_pos (by omega), if_pos (by omega)]; exact ⟨rfl, rfl⟩
    · exact absurd rfl h
  · have h2 : ¬ a.most < n := fun h2 => by rw [if_pos h2] at h; cases h
    have en : applyN a n = max (n + a.add) a.floor := by unfold applyN; rw [ea, if_neg h2, if_pos rfl]
    have eb : applyE b (applyN a n) = if b.most < max (n + a.add) a.floor then 8 else 0 := by rw [en]; unfold applyE; rw [r2, w2]; simp
    have e : (b.most < max (n + a.add) a.floor) ↔ joinL a b < n := by
      simp only [NL] at *
      omega
    rw [eb]
    refine ⟨by simp only [e], fun h3 => ?_⟩
    have h4 : ¬ joinL a b < n := fun h4 => by rw [if_pos (e.2 h4)] at h3; cases h3
    unfold applyN
    rw [eab, if_neg h4, if_pos rfl, ea, if_neg h2, if_pos rfl]
    have : applyE b (max (n + a.add) a.floor) = 0 := by rw [← en]; rw [eb]; exact h3
    rw [this, if_pos rfl]
    simp only [join1]
    omega
end Go.Proofs.Ythmldeningpjbaa.Pt
