/- Memory words shared by all walks of this seat: what a slice reads as, which blocks are kept. No program is named here. -/
import Derived.WalkKit
import Derived.WalkSpells
import Derived.WalkLawsBesides
import Derived.Lib.Hide
import Derived.Laws.OwnMore
import Derived.Below
import Derived.Maps.AppendAt
import Derived.BigQuiet
import Derived.BigRegion
import Derived.Deep.QuietTactic
import Derived.Deep.RegionLaw
import Derived.Deep.RegionWith
import Derived.Deep.DeepCutAuto
import Derived.Deep.LoopGhost
import Derived.Deep.DeepFit
import Derived.Deep.Draws
import Derived.Deep.AppendLies
import Derived.Deep.CutBlock
import Derived.Deep.RegionLawGrows
import Derived.Test.YtalcinepeofmcaaDoorRows
import Derived.ProofKit
import Derived.OpenShut
import Derived.WideKeyArgs
import Derived.ChangeSame
import Derived.SizedLaws
import Derived.Orders
import Derived.KernelRfl
set_option linter.unusedVariables false
set_option linter.unusedSimpArgs false
namespace Go.Proofs.YtalcinepeofmcaaDoor
open Go Go.RowKit



/-- The slice (A, n) reads as the cells xs, size cells an element. -/
def Rd (w : World) (size : Nat) (A : Option Addr) (n : Nat) (xs : List Value) : Prop :=
  xs.length = n * size ∧ (0 < n → ∃ b off, A = some ⟨b, off, none⟩ ∧ b < w.heap.size ∧ ∀ j u, xs[j]? = some u → w.cell? ⟨b, off + j, none⟩ = some u)

section
variable {w w' : World} {size n : Nat} {A : Option Addr} {xs : List Value}
theorem Rd.nil (w : World) (size : Nat) (A : Option Addr) : Rd w size A 0 [] := ⟨by simp, fun h => absurd h (by omega)⟩
theorem Rd.below (h : Rd w size A n xs) (hb : Below w.heap.size w w') : Rd w' size A n xs := by
  refine ⟨h.1, fun hn => ?_⟩
  obtain ⟨b, off, e, hl, hc⟩ := h.2 hn
  exact ⟨b, off, e, Nat.lt_of_lt_of_le hl hb.size, fun j u hu => (hb.cell (p := ⟨b, off + j, none⟩) hl).trans (hc j u hu)⟩
theorem Rd.below2 {w0 : World} (h : Rd w0 size A n xs) (hb : Below w0.heap.size w0 w') : Rd w' size A n xs := h.below hb
theorem Rd.one (h : Rd w 1 A n xs) {k : Nat} (hk : k < n) : ∃ b off u, A = some ⟨b, off, none⟩ ∧ b < w.heap.size ∧ xs[k]? = some u ∧ w.cell? ⟨b, off + k, none⟩ = some u := by
  obtain ⟨b, off, e, hl, hc⟩ := h.2 (by omega)
  have hx : k < xs.length := by have := h.1; omega
  exact ⟨b, off, xs[k], e, hl, List.getElem?_eq_getElem hx, hc k _ (List.getElem?_eq_getElem hx)⟩
theorem Rd.of_own {base : Nat} {e : TypeId} {c : Nat} (h : w.ownsRow base e size (.slice A n c) n xs) : Rd w size A n xs := by
  refine ⟨h.1, fun hn => ?_⟩
  obtain ⟨g, cap, hv, _, hlt⟩ := h.form hn
  have hA : A = some ⟨g, 0, none⟩ := by injection hv
  subst hA
  refine ⟨g, 0, rfl, hlt, fun j u hu => ?_⟩
  have := h.cells (g := g) rfl j u hu
  rwa [Addr.add_lit] at this
end

theorem bcell {w w' : World} (hb : Below w.heap.size w w') : (∀ b o, b < w.heap.size → w'.cell? ⟨b, o, none⟩ = w.cell? ⟨b, o, none⟩) ∧ (∀ b o, b < w.heap.size → w'.frozen? ⟨b, o, none⟩ = w.frozen? ⟨b, o, none⟩) :=
  ⟨fun b o h => hb.cell (p := ⟨b, o, none⟩) h, fun b o h => hb.frozen (p := ⟨b, o, none⟩) h⟩

/-- w' is w but for the blocks of S, and new blocks. -/
structure Keep (S : List Nat) (w w' : World) : Prop where
  os : w'.os = w.os
  tape : w'.tape = w.tape
  output : w'.output = w.output
  size : w.heap.size ≤ w'.heap.size
  block : ∀ k, k < w.heap.size → k ∉ S → w'.heap[k]? = w.heap[k]?

section
variable {S S' : List Nat} {w w' w'' : World}
theorem Keep.refl (S : List Nat) (w : World) : Keep S w w := ⟨rfl, rfl, rfl, Nat.le_refl _, fun _ _ _ => rfl⟩
theorem Keep.trans (h : Keep S w w') (k : Keep S' w' w'') (hs : ∀ x ∈ S', x ∈ S ∨ w.heap.size ≤ x) : Keep S w w'' :=
  ⟨k.os.trans h.os, k.tape.trans h.tape, k.output.trans h.output, Nat.le_trans h.size k.size, fun i hi hn =>
    (k.block i (Nat.lt_of_lt_of_le hi h.size) (fun hm => by rcases hs i hm with h1 | h1; exact hn h1; omega)).trans (h.block i hi hn)⟩
theorem Keep.mono (h : Keep S w w') (hs : ∀ x ∈ S, x ∈ S' ∨ w.heap.size ≤ x) : Keep S' w w' :=
  ⟨h.os, h.tape, h.output, h.size, fun i hi hn => h.block i hi (fun hm => by rcases hs i hm with h1 | h1; exact hn h1; omega)⟩
theorem Keep.below (h : Keep S w w') {B : Nat} (hB : B ≤ w.heap.size) (hs : ∀ x ∈ S, B ≤ x) : Below B w w' :=
  ⟨h.os, h.tape, h.output, h.size, fun i hi => h.block i (by omega) (fun hm => by have := hs i hm; omega)⟩
theorem Keep.of_below (h : Below w.heap.size w w') : Keep S w w' := ⟨h.os, h.tape, h.output, h.size, fun i hi _ => h.block i hi⟩
theorem Keep.drew (h : Keep S w w') : Keep S w w'.drew := ⟨h.os, h.tape, h.output, h.size, h.block⟩
theorem Keep.drewN (h : Keep S w w') (n : Nat) : Keep S w (w'.drewN n) := ⟨h.os, h.tape, h.output, h.size, h.block⟩
theorem Keep.alloc (h : Keep S w w') (o : Obj) : Keep S w (w'.alloc o) :=
  ⟨h.os, h.tape, h.output, by have := h.size; simp; omega, fun i hi hn => by rw [Below.heap_alloc _ _ _ (by have := h.size; omega)]; exact h.block i hi hn⟩
theorem Keep.setCell (h : Keep S w w') {p : Addr} (hp : p.block ∈ S ∨ w.heap.size ≤ p.block) (u : Value) : Keep S w (w'.setCell p u) :=
  ⟨h.os, h.tape, h.output, by have := h.size; simpa [World.setCell] using this, fun i hi hn => by
    rw [Below.heap_setCell _ _ _ _ (fun e => by subst e; rcases hp with h1 | h1; exact hn h1; omega)]; exact h.block i hi hn⟩
theorem Keep.grown (h : Keep S w w') {row : Option Nat} (hg : w'.grownBy w'' row) (hr : ∀ g, row = some g → g ∈ S ∨ w.heap.size ≤ g) : Keep S w w'' :=
  ⟨hg.os.trans h.os, hg.tape.trans h.tape, hg.output.trans h.output, Nat.le_trans h.size hg.size, fun i hi hn => by
    rw [hg.block i (by have := h.size; omega) (fun e => by rcases hr i e.symm with h1 | h1; exact hn h1; omega)]; exact h.block i hi hn⟩
end

theorem heap_set {w : World} {g : Nat} {cs : Array Value} {t : TypeId} {fr : Nat × Nat} (h : w.heap[g]? = some (.cells cs t fr)) (i : Nat) (u : Value) :
    (w.setCell ⟨g, i, none⟩ u).heap[g]? = some (.cells (cs.setIfInBounds i u) t fr) := by
  simp [World.setCell, Array.getElem?_modify, h]
theorem heap_set_ne {w : World} {g : Nat} {o : Option Obj} (h : w.heap[g]? = o) {p : Addr} (hp : g ≠ p.block) (u : Value) : (w.setCell p u).heap[g]? = o :=
  (Below.heap_setCell w p u g hp).trans h
theorem heap_lt {w : World} {g : Nat} {o : Obj} (h : w.heap[g]? = some o) : g < w.heap.size := (Array.getElem?_eq_some_iff.1 h).1
theorem heap_alloc' {w : World} {g : Nat} {o : Obj} (h : w.heap[g]? = some o) (o' : Obj) : (w.alloc o').heap[g]? = some o := (Below.heap_alloc w o' g (heap_lt h)).trans h
theorem frozen_of_heap {w : World} {g : Nat} {cs : Array Value} {t : TypeId} (h : w.heap[g]? = some (.cells cs t (0, 0))) (i : Nat) : w.frozen? ⟨g, i, none⟩ = false := by simp [World.frozen?, h]
theorem cell_of_heap {w : World} {g : Nat} {cs : Array Value} {t : TypeId} {fr : Nat × Nat} (h : w.heap[g]? = some (.cells cs t fr)) (i : Nat) : w.cell? ⟨g, i, none⟩ = cs[i]? := cell_of_row w g i cs t fr h

/-- A slice value (A, n, c) of one-cell elements, nil or in a block of its own (perhaps not from the block's head): fp: its block. It may be appended to in place. -/
def OwnA (w : World) (e : TypeId) (A : Option Addr) (n c : Nat) (xs : List Value) (fp : List Nat) : Prop :=
  xs.length = n ∧ ((A = none ∧ n = 0 ∧ c = 0 ∧ fp = []) ∨
    ∃ g off cur, A = some ⟨g, off, none⟩ ∧ fp = [g] ∧ w.heap[g]? = some (.cells cur e (0, 0)) ∧ n ≤ c ∧ c ≤ 9223372036854775807 ∧ off + c = cur.size ∧ ∀ j u, xs[j]? = some u → cur[off + j]? = some u)

section
variable {w w' : World} {e : TypeId} {A : Option Addr} {n c : Nat} {xs : List Value} {fp : List Nat}
theorem OwnA.lt (h : OwnA w e A n c xs fp) : ∀ g ∈ fp, g < w.heap.size := by
  intro g hg
  rcases h.2 with ⟨_, _, _, rfl⟩ | ⟨g', off, cur, rfl, rfl, hh, _⟩
  · simp at hg
  · obtain rfl : g = g' := by simpa using hg
    exact heap_lt hh
theorem OwnA.ge (h : OwnA w e A n c xs fp) : n ≤ c := by
  rcases h.2 with ⟨_, rfl, rfl, _⟩ | ⟨g', off, cur, rfl, rfl, hh, h1, _⟩ <;> omega
theorem OwnA.keepS {S : List Nat} (h : OwnA w e A n c xs fp) (hk : Keep S w w') (hd : ∀ g ∈ fp, g ∉ S) : OwnA w' e A n c xs fp := by
  refine ⟨h.1, ?_⟩
  rcases h.2 with h0 | ⟨g, off, cur, rfl, rfl, hh, r⟩
  · exact .inl h0
  · exact .inr ⟨g, off, cur, rfl, rfl, (hk.block g (heap_lt hh) (hd g (by simp))).trans hh, r⟩
theorem OwnA.alloc (h : OwnA w e A n c xs fp) (o : Obj) : OwnA (w.alloc o) e A n c xs fp := h.keepS ((Keep.refl [] w).alloc o) (by simp)
theorem OwnA.drewN (h : OwnA w e A n c xs fp) (k : Nat) : OwnA (w.drewN k) e A n c xs fp := h
theorem OwnA.setCell {p : Addr} (h : OwnA w e A n c xs fp) (hp : p.block ∉ fp) (u : Value) : OwnA (w.setCell p u) e A n c xs fp :=
  h.keepS ((Keep.refl [p.block] w).setCell (.inl (by simp)) u) (by simp; rintro g hg rfl; exact hp hg)
theorem OwnA.nil (w : World) (e : TypeId) : OwnA w e none 0 0 [] [] := ⟨rfl, .inl ⟨rfl, rfl, rfl, rfl⟩⟩
/-- cut to its first k elements -/
theorem OwnA.take (h : OwnA w e A n c xs fp) {k : Nat} (hk : k ≤ n) : OwnA w e A k c (xs.take k) fp := by
  refine ⟨by rw [List.length_take, h.1]; omega, ?_⟩
  rcases h.2 with ⟨a, b, c', d⟩ | ⟨g, off, cur, rfl, rfl, hh, h1, h2, h3, h4⟩
  · exact .inl ⟨a, by omega, c', d⟩
  · refine .inr ⟨g, off, cur, rfl, rfl, hh, by omega, h2, h3, fun j u hu => h4 j u ?_⟩
    rw [List.getElem?_take] at hu
    split at hu
    · exact hu
    · cases hu
theorem OwnA.some_ (h : OwnA w e A n c xs fp) (hn : 0 < n) : ∃ g off, A = some ⟨g, off, none⟩ ∧ fp = [g] ∧ g < w.heap.size ∧ (∀ j u, xs[j]? = some u → w.cell? ⟨g, off + j, none⟩ = some u) ∧ (∀ j, w.frozen? ⟨g, j, none⟩ = false) := by
  rcases h.2 with ⟨_, h0, _⟩ | ⟨g, off, cur, rfl, rfl, hh, h1, h2, h3, h4⟩
  · omega
  · exact ⟨g, off, rfl, rfl, heap_lt hh, fun j u hu => (cell_of_heap hh _).trans (h4 j u hu), fun j => frozen_of_heap hh j⟩
theorem OwnA.rd (h : OwnA w e A n c xs fp) : Rd w 1 A n xs := by
  refine ⟨by rw [h.1]; omega, fun hn => ?_⟩
  obtain ⟨g, off, e, _, hl, hc, _⟩ := h.some_ hn
  exact ⟨g, off, e, hl, hc⟩
/-- without its first element -/
theorem OwnA.tail {g off : Nat} (h : OwnA w e (some ⟨g, off, none⟩) n c xs fp) (hn : 1 < n) : OwnA w e (some ⟨g, off + 1, none⟩) (n - 1) (c - 1) xs.tail fp := by
  refine ⟨by rw [List.length_tail, h.1], .inr ?_⟩
  rcases h.2 with ⟨h0, _⟩ | ⟨g', off', cur, he, rfl, hh, h1, h2, h3, h4⟩
  · cases h0
  · injection he with he
    injection he with e1 e2 _
    subst e1 e2
    refine ⟨g, off + 1, cur, rfl, rfl, hh, by omega, by omega, by omega, fun j u hu => ?_⟩
    rw [List.getElem?_tail] at hu
    have := h4 (j + 1) u hu
    rwa [show off + (j + 1) = off + 1 + j from by omega] at this

variable {P : Program}
theorem setCells_one (w : World) (b off : Nat) (u : Value) : w.setCells b off [u] = w.setCell ⟨b, off, none⟩ u := by
  simp [World.setCells]
/-- append of one element onto such a slice -/
theorem run_append_A (t ty : TypeId) (i : TypeInfo) (z : Value) (bytes : Nat) (ht : P.underlying t = some (.slice e)) (hi : P.info? e = some i) (hz : i.zero = some z)
    (hsize : i.size = 1) (hby : i.bytes = bytes) (hzs : z.cells.size = 1) (hown : OwnA w e A n c xs fp) (ad : Addr) (u : Value) (hu : w.cell? ad = some u) (h1 : u.oneCell' = true)
    (hn : n + 1 ≤ 1000000000000) (hbytes : bytes ≤ 100) :
    ∃ g off c' w', (Builtin.append_ #[t, t] ty #[.slice A n c, .slice (some ad) 1 1]).run P w = .ok (.slice (some ⟨g, off, none⟩) (n + 1) c') w' ∧
      OwnA w' e (some ⟨g, off, none⟩) (n + 1) c' (xs ++ [u]) [g] ∧ (g ∈ fp ∨ w.heap.size = g) ∧ g < w'.heap.size ∧ Keep fp w w' := by
  subst hby
  have hb1 : (n + 1) * i.bytes ≤ 140737488355328 := Nat.le_trans (Nat.mul_le_mul hn hbytes) (by decide)
  have hnews : ∀ j v, [u][j]? = some v → w.cell? (ad.add j) = some v := by
    intro j v hv
    cases j with
    | zero => simpa [Addr.add] using (by simpa using hv : u = v) ▸ hu
    | succ j => simp at hv
  have hl : [u].length = 1 * i.size := by simp [hsize]
  have h1' : ∀ v ∈ [u], v.oneCell' = true := by simpa using h1
  have hmx : n + 1 ≤ maxLen := by simp only [maxLen]; omega
  -- the new block
  have grown : ∀ (old : Nat) (olds : List Value), olds = xs → 
      OwnA (w.drew.alloc (.cells (olds.toArray ++ [u].toArray ++ Builtin.zeroCells z.cells (grownCap w (n + 1) old e - (n + 1))) e)) e (some ⟨w.heap.size, 0, none⟩) (n + 1) (grownCap w (n + 1) old e) (xs ++ [u]) [w.heap.size] := by
    rintro old olds rfl
    have hge := grownCap_ge w (n + 1) old e
    have hcm : grownCap w (n + 1) old e ≤ maxLen := grownCap_le_maxLen w (n + 1) old e hmx
    simp only [maxLen] at hcm
    refine ⟨by simp [hown.1], .inr ⟨_, 0, _, rfl, rfl, heap_alloc_new w.drew _, hge, hcm, ?_, ?_⟩⟩
    · simp only [Array.size_append, List.size_toArray, size_zeroCells, hzs, hown.1, List.length_singleton]
      omega
    · intro j v hv
      have hlt : j < (olds ++ [u]).length := (List.getElem?_eq_some_iff.1 hv).1
      rw [Nat.zero_add, Array.getElem?_append_left (by simpa using hlt)]
      simpa using hv
  have hkeep : ∀ o : Obj, Keep fp w (w.drew.alloc o) := fun o => ((Keep.refl fp w).drew).alloc o
  rcases hown.2 with ⟨rfl, rfl, rfl, rfl⟩ | ⟨g, off, cur, rfl, rfl, hh, hnc, hcm, hcs, hat⟩
  · have hx : xs = [] := List.eq_nil_of_length_eq_zero hown.1
    subst hx
    have hr := run_append_nil (P := P) w t ty e i z ht hi hz ad 1 1 [u] hl hnews (by omega) (by omega) (by simp at hb1; omega)
    have hg := grown 0 [] rfl
    simp only [Nat.zero_add, List.nil_append, Array.empty_append] at hg ⊢
    exact ⟨_, 0, _, _, hr, hg, .inr rfl, by simp, hkeep _⟩
  · by_cases hroom : n + 1 ≤ c
    · have hlt : off + n < cur.size := by omega
      have hr := run_append_room_cells (P := P) w t ty e i ht hi g off n c ad 1 1 [u] hl hnews h1' hroom (by
        intro j hj
        obtain rfl : j = 0 := by simpa using hj
        have hlt' : off + n * i.size + 0 < cur.size := by rw [hsize]; omega
        rw [cell_of_heap hh, Array.getElem?_eq_getElem hlt']
        rfl) (by intro j hj; exact frozen_of_heap hh _)
      refine ⟨g, off, c, _, hr, ⟨by simp [hown.1], .inr ⟨g, off, cur.setIfInBounds (off + n) u, rfl, rfl, ?_, hroom, hcm, by simp [hcs], ?_⟩⟩, .inl (by simp), ?_, ?_⟩
      · rw [setCells_one, hsize, Nat.mul_one]
        exact heap_set hh _ _
      · intro j v hv
        rw [List.getElem?_append] at hv
        split at hv
        · rename_i hj
          rw [Array.getElem?_setIfInBounds_ne (by have := hown.1; omega)]
          exact hat j v hv
        · rename_i hj
          have hj2 : j = n := by
            have h5 := (List.getElem?_eq_some_iff.1 hv).1
            have h6 := hown.1
            simp at h5
            omega
          subst hj2
          have h7 : u = v := by simpa [hown.1] using hv
          subst h7
          simp [hlt]
      · rw [setCells_one]
        have := heap_lt hh
        simpa [World.setCell] using this
      · rw [setCells_one]
        exact (Keep.refl _ _).setCell (.inl (by simp)) _
    · have holds : ∀ j v, xs[j]? = some v → w.cell? ((⟨g, off, none⟩ : Addr).add j) = some v := by
        intro j v hv
        rw [show (⟨g, off, none⟩ : Addr).add j = ⟨g, off + j, none⟩ from by simp [Addr.add]]
        exact (cell_of_heap hh _).trans (hat j v hv)
      have hr := run_append_grow (P := P) w t ty e i z ht hi hz ⟨g, off, none⟩ n c xs (by simp [hown.1, hsize]) holds ad 1 1 [u] hl hnews (by omega) (by omega) (growslice_fits (by omega) hb1)
      exact ⟨_, 0, _, _, hr, grown c xs rfl, .inr rfl, by simp, hkeep _⟩

/-- at an operation -/
theorem wp_append_A {o : Oper} {a : Act} {K : Act → World → Prop} {Q : Exit → Act → World → Prop} (s x : Operand) (t : TypeId)
    (ho : o.op = .call { callee := .builtin .append, args := #[s, x], argTypes := #[t, t] })
    (i : TypeInfo) (z : Value) (bytes : Nat) (ht : P.underlying t = some (.slice e)) (hi : P.info? e = some i) (hz : i.zero = some z)
    (hsize : i.size = 1) (hby : i.bytes = bytes) (hzs : z.cells.size = 1) (hs : a.eval s = .slice A n c) (ad : Addr) (hx : a.eval x = .slice (some ad) 1 1)
    (u : Value) (hown : OwnA w e A n c xs fp) (hu : w.cell? ad = some u) (h1 : u.oneCell' = true)
    (hn : n + 1 ≤ 1000000000000) (hbytes : bytes ≤ 100)
    (h : ∀ g off c' w', OwnA w' e (some ⟨g, off, none⟩) (n + 1) c' (xs ++ [u]) [g] → (g ∈ fp ∨ w.heap.size = g) → g < w'.heap.size → Keep fp w w' → K (a.put o.dst (.slice (some ⟨g, off, none⟩) (n + 1) c')) w') : o.wp P a w K Q := by
  obtain ⟨g, off, c', w', hr, h2, h3, h4, h5⟩ := run_append_A (P := P) t o.type i z bytes ht hi hz hsize hby hzs hown ad u hu h1 hn hbytes
  unfold Oper.wp execOp
  simp only [ho, resolve, invoke, builtin, Sem.run_bind, Sem.run_pure, Result.andThen_ok, List.map_toArray, List.map_cons, List.map_nil, hs, hx, hr]
  exact h g off c' w' h2 h3 h4 h5

theorem wpList_append_A {ops : Array Oper} {rest : List Oper} {o : Oper} {a : Act} {Q : Exit → Act → World → Prop} (hgd : o.guard = none) (s x : Operand) (t : TypeId)
    (ho : o.op = .call { callee := .builtin .append, args := #[s, x], argTypes := #[t, t] })
    (i : TypeInfo) (z : Value) (bytes : Nat) (ht : P.underlying t = some (.slice e)) (hi : P.info? e = some i) (hz : i.zero = some z)
    (hsize : i.size = 1) (hby : i.bytes = bytes) (hzs : z.cells.size = 1) (hs : a.eval s = .slice A n c) (ad : Addr) (hx : a.eval x = .slice (some ad) 1 1)
    (u : Value) (hown : OwnA w e A n c xs fp) (hu : w.cell? ad = some u) (h1 : u.oneCell' = true)
    (hn : n + 1 ≤ 1000000000000) (hbytes : bytes ≤ 100)
    (h : ∀ g off c' w', OwnA w' e (some ⟨g, off, none⟩) (n + 1) c' (xs ++ [u]) [g] → (g ∈ fp ∨ w.heap.size = g) → g < w'.heap.size → Keep fp w w' → wpList P ops Q rest (a.put o.dst (.slice (some ⟨g, off, none⟩) (n + 1) c')) w') : wpList P ops Q (o :: rest) a w :=
  wpList_plain hgd fun _ hK => wp_append_A s x t ho i z bytes ht hi hz hsize hby hzs hs ad hx u hown hu h1 hn hbytes fun g off c' w' h2 h3 h4 h5 => hK _ _ (h g off c' w' h2 h3 h4 h5)

theorem step_append_A {ops : Array Oper} {o : Oper} {a : Act} {K : Act → World → Prop} {Q : Exit → Act → World → Prop} {E : Prop} (hgd : o.guard = none) (s x : Operand) (t : TypeId)
    (ho : o.op = .call { callee := .builtin .append, args := #[s, x], argTypes := #[t, t] })
    (i : TypeInfo) (z : Value) (bytes : Nat) (ht : P.underlying t = some (.slice e)) (hi : P.info? e = some i) (hz : i.zero = some z)
    (hsize : i.size = 1) (hby : i.bytes = bytes) (hzs : z.cells.size = 1) (hs : a.eval s = .slice A n c) (ad : Addr) (hx : a.eval x = .slice (some ad) 1 1)
    (u : Value) (hown : OwnA w e A n c xs fp) (hu : w.cell? ad = some u) (h1 : u.oneCell' = true)
    (hn : n + 1 ≤ 1000000000000) (hbytes : bytes ≤ 100)
    (h : ∀ g off c' w', OwnA w' e (some ⟨g, off, none⟩) (n + 1) c' (xs ++ [u]) [g] → (g ∈ fp ∨ w.heap.size = g) → g < w'.heap.size → Keep fp w w' → K (a.put o.dst (.slice (some ⟨g, off, none⟩) (n + 1) c')) w') :
    if Region.wanted o (yielded ops a.tmps) = true then Oper.wp P o a w K Q else E := by
  have hw : Region.wanted o (yielded ops a.tmps) = true := by simp [Region.wanted, hgd]
  rw [if_pos hw]
  exact wp_append_A s x t ho i z bytes ht hi hz hsize hby hzs hs ad hx u hown hu h1 hn hbytes h
end

end Go.Proofs.YtalcinepeofmcaaDoor
/- The step from a law's contract to its row, for arguments of any readable types: nothing below the heap's old size has turned, so each argument reads as it did. -/
namespace Go.Proofs.YtalcinepeofmcaaDoor
open Go.ChangeShapes Go.WideShapes Go.ChangeAt Go.RowKit

theorem own : ownKnob Tryd.prog.godebug = none := by kernel_rfl
theorem laidOut : laidOutB Tryd.prog = true := by kernel_rfl

section
variable {H : Type} {enc : TypeId × Value → H} {P : Program}
theorem trodAll_stays (hl : laidOutB P = true) {W W' : World} {sp' : Nat → Bool} : ∀ {ts : List TypeId} {vs : List Value} {ds : List (DataW H)} {ps : List MemPlace}, ts.all (fun t => P.readableRec t && decide (t < P.types.size)) = true →
    DataW.TrodAll enc P W 0 (fun _ => true) true ts vs ds ps → (∀ p ∈ ps, W.sameAt W' p) → (∀ p ∈ ps, sp' p.block = true) → DataW.TrodAll enc P W' 0 sp' true ts vs ds ps
  | [], [], [], ps, _, h, _, _ => h
  | t :: ts, v :: vs, d :: ds, ps, hr, h, hsame, hs => by
    obtain ⟨p, q, h1, h2, rfl⟩ := h
    simp only [List.all_cons, Bool.and_eq_true, decide_eq_true_eq] at hr
    exact ⟨p, q, WideElems.Trod_stays hl hr.1.1 hr.1.2 h1 (fun x hx => hsame x (by simp [hx])) (fun x hx => hs x (by simp [hx])),
      trodAll_stays hl hr.2 h2 (fun x hx => hsame x (by simp [hx])) (fun x hx => hs x (by simp [hx])), rfl⟩

theorem law_post (hl : laidOutB P = true) {f : Func} {s : ChangeSpec} {fresh handsOn again : Bool} {W W' : World} {args : Array Value} {ds gs : List (DataW H)} {before : List MemPlace} {tb : TypeId}
    (hr : f.params.toList.all (fun t => P.readableRec t && decide (t < P.types.size)) = true) (hres : f.resultTypes = #[tb]) (htb : P.underlying tb = some .bool) (hvars : s.vars = []) (hs : s.fn H ds = { results := [.lit (.bool true)], args := ds })
    (hW : DataW.Whole enc P f.params.toList s.vars false W args.toList ds gs before) (hb : Below W.heap.size W W') :
    s.post enc P f false fresh handsOn again W args (.bool true) W' := by
  have hlt : ∀ p ∈ before, p.block < W.heap.size := fun p hp => hW.lt p hp
  have hW0 := hW
  obtain ⟨pa, pv, hA, hV, hps, hz, hn⟩ := hW
  rw [hvars] at hV
  obtain ⟨rfl, rfl⟩ := trodVars_none hV
  have hfn : s.fn H (ds ++ []) = { results := [.lit (.bool true)], args := ds } := by rw [List.append_nil]; exact hs
  have hargs : ∀ sp : Nat → Bool, (∀ p ∈ before, sp p.block = true) → DataW.TrodAll enc P W' 0 sp true f.params.toList args.toList ds pa := fun sp hsp =>
    trodAll_stays hl hr hA (fun p hp => hb.same (hlt p (by rw [hps]; simp [hp]))) (fun p hp => hsp p (by rw [hps]; simp [hp]))
  have hr1 : ∀ (b : Nat) (sp : Nat → Bool) (hd : Bool), DataW.TrodAll enc P W' b sp hd f.resultTypes.toList ((Value.bool true).resultList f.resultTypes.size) [.lit (.bool true)] [] := fun b sp hd => by
    rw [hres]; exact (trodAll_cons_mk (shut_bool htb _) trodAll_mk0)
  have hold : ∀ p ∈ before, (fun b => decide (b < W.heap.size)) p.block = true := fun p hp => by simpa using hlt p hp
  have hvr : ∀ sp : Nat → Bool, DataW.TrodVars enc P W' sp s.vars [] [] := fun sp => by rw [hvars]; rfl
  refine ⟨ds, [], before, [], pa, [], hW0, ?_, ?_, ?_, World.keptBut_mono (fun p hp => ⟨hp, ?_⟩) (hb.frame (· ∈ before)), fun _ => ?_⟩
  · rw [hfn]; exact hr1 _ _ _
  · rw [hfn]; exact hargs _ hold
  · rw [hfn]; exact hvr _
  · rw [hps, List.append_nil] at hp
    exact Or.inr (by simpa using hp)
  · refine ⟨ok_one hres rfl (okWide_bool_mk htb _), [.lit (.bool true)] ++ ds, [], ([] ++ pa) ++ [], ⟨[] ++ pa, [], ?_, hvr _, rfl, ?_, ?_⟩, ?_⟩
    · exact trodAll_append (hargs _ (fun _ _ => rfl)) (hr1 _ _ _)
    · intro b off hp
      have hin : MemPlace.cell b off ∈ before := by rw [hps]; simpa using hp
      rw [hb.frozen (hlt _ hin)]
      exact hz b off hin
    · intro ha
      cases ha
    · intro p hp _
      rw [hps]
      simpa using hp
end

section
variable {H : Type} {enc : TypeId × Value → H} {P : Program} {W : World}
/-- an argument that is a slice of integers reads as a list -/
theorem open_intsR {r : Reach} {b0 : Nat} {t e : TypeId} {k : IntKind} {v : Value} {d : DataW H} {ps : List MemPlace} (ht : P.underlying t = some (.slice e)) (he : P.underlying e = some (.int k)) (hc1 : P.cellsOf e = 1)
    (hval : Value.okWide P W r b0 t v) (hd : DataW.Trod enc P W 0 (fun _ => true) true t v d ps) :
    ∃ (A : Option Addr) (c : Nat) (l : List Int), v = .slice A l.length c ∧ Rd W 1 A l.length (l.map (Value.int k)) ∧ (∀ x ∈ l, (Lit.int k x).wf = true) ∧ l.length ≤ c ∧ c ≤ 9223372036854775807 ∧ (d = .nil ∧ l = [] ∨ ∃ rest, d = .slice (lits k l) rest) := by
  obtain ⟨a, len, cap, rfl⟩ := okWide_slice ht hval
  obtain ⟨fuel, hf⟩ := hd
  rcases open_ints ht he hc1 hf with ⟨hv, hx⟩ | ⟨a', len', cap', zs, hv, hb, hl, hm, hz, hx, hc, hw⟩
  · simp [Value.cells] at hv
    obtain ⟨rfl, rfl, rfl⟩ := hv
    simp only [Prod.mk.injEq] at hx
    exact ⟨none, 0, [], rfl, Rd.nil _ _ _, by simp, by simp, by omega, .inl ⟨hx.1, rfl⟩⟩
  · simp [Value.cells] at hv
    obtain ⟨rfl, rfl, rfl⟩ := hv
    simp only [Prod.mk.injEq] at hx
    simp only [if_true] at hz
    have hll : (zs.take len).length = len := by rw [List.length_take]; omega
    unfold maxLen at hm
    refine ⟨some a', cap, zs.take len, by rw [hll], ?_, fun x hx => hw x (List.mem_of_mem_take hx), by omega, hm, .inr ⟨_, hx.1⟩⟩
    rw [hll]
    refine ⟨by rw [List.length_map, hll]; omega, fun hn => ?_⟩
    obtain ⟨b, off, spot⟩ := a'
    have hspot : spot = none := by simpa [Addr.add] using World.cell?_spot (hc 0 (by omega))
    subst hspot
    have h0 := hc 0 (by omega)
    rw [add_plain] at h0
    refine ⟨b, off, rfl, World.block_lt_of_cell? _ _ h0, fun j u hu => ?_⟩
    have hj : j < len := by
      have := (List.getElem?_eq_some_iff.1 hu).1
      rw [List.length_map, hll] at this
      exact this
    have h1 := hc j (by omega)
    rw [add_plain] at h1
    rw [h1, ← hu, List.getElem?_map, List.getElem?_take_of_lt hj, List.getD_eq_getElem?_getD, List.getElem?_eq_getElem (by omega)]
    rfl
/-- the form's own reach: what is read takes less than 2^47 bytes -/
theorem reach_of {ts : List TypeId} {ds : List (DataW H)} {j : Nat} {t e : TypeId} {k : IntKind} {d : DataW H} {l : List Int} (h : (DataW.weightsEach P ts ds).all (· ≤ reachBytes) = true) (ht : ts[j]? = some t) (hd : ds[j]? = some d) (hu : P.underlying t = some (.slice e)) (hb : 1 ≤ P.bytesOf e)
    (hs : d = .nil ∧ l = [] ∨ ∃ rest, d = .slice (lits k l) rest) : l.length ≤ 140737488351232 := by
  rcases hs with ⟨_, rfl⟩ | ⟨rest, rfl⟩
  · simp
  · have h1 := sized_slice h ht hd hu
    have h2 : l.length ≤ (l.length + rest.length) * P.bytesOf e := Nat.le_trans (Nat.le_add_right _ _) (Nat.le_mul_of_pos_right _ hb)
    simp only [lits, List.length_map, reachBytes] at h1
    omega
theorem wf_u8 {x : Int} (h : (Lit.int .u8 x).wf = true) : 0 ≤ x ∧ x ≤ 255 := by simpa [Lit.wf, IntKind.min, IntKind.max, IntKind.signed, IntKind.bits] using h
theorem wf_u16 {x : Int} (h : (Lit.int .u16 x).wf = true) : 0 ≤ x ∧ x ≤ 65535 := by simpa [Lit.wf, IntKind.min, IntKind.max, IntKind.signed, IntKind.bits] using h
end
end Go.Proofs.YtalcinepeofmcaaDoor
/- What the functions of layer 8 compute, as plain Lean functions over whole numbers. No program is named here. -/
namespace Go.Proofs.YtalcinepeofmcaaDoor.Sp

def within (n lo hi : Int) : Bool := decide (lo ≤ n) && decide (n ≤ hi)

structure Stp where
  cls : Int
  ton : Int
  up : Int
  dn : Int
deriving DecidableEq, Inhabited

structure Pol where
  steps : List Stp
  hold : Int
  calm : Int
  notice : Int
  grace : Int

/-- the greatest index (below n) whose number is at most sev; else 0 -/
def upToN (l : List Int) (sev : Int) : Nat → Int
  | 0 => 0
  | n + 1 => if l.getD n 0 ≤ sev then (n : Int) else upToN l sev n

def upTo (l : List Int) (sev : Int) : Int := upToN l sev l.length

structure Ves where
  cls : Int
  ton : Int
  esc : Bool
deriving DecidableEq, Inhabited

def vright (v : Ves) : Bool := within v.cls 0 6 && within v.ton 0 500000
def fulfils (v : Ves) (s : Stp) : Bool := decide (s.cls ≤ (if v.esc then v.cls + 1 else v.cls)) && decide (s.ton ≤ v.ton)

/-- how many of the first k stay when those at the end that can no longer be the first one are dropped -/
def popLen (gr : Bool) (x : Int) (V : List Int) : Nat → Nat
  | 0 => 0
  | k + 1 => if (V.getD k 0 == x) || (decide (x < V.getD k 0) != gr) then popLen gr x V k else k + 1

def headV (D : List (Int × Int)) : Int := (D.headD (0, 0)).1

/-- the numbers that a window keeps, and when they came, behind the next one -/
def pushD (wide at_ : Int) (gr : Bool) (D : List (Int × Int)) (x : Int) : List (Int × Int) :=
  let D1 := D.take (popLen gr x (D.map (·.1)) D.length) ++ [(x, at_)]
  if (D1.headD (0, 0)).2 ≤ at_ - wide then D1.tail else D1

end Go.Proofs.YtalcinepeofmcaaDoor.Sp
/- What the functions of layer 8 compute, further. -/
namespace Go.Proofs.YtalcinepeofmcaaDoor.Sp

/-- what the window keeps behind the first k numbers -/
def dq (wide : Int) (gr : Bool) (xs : List Int) : Nat → List (Int × Int)
  | 0 => []
  | k + 1 => pushD wide (k : Int) gr (dq wide gr xs k) (xs.getD k 0)

def slideN (wide : Int) (gr : Bool) (xs : List Int) (n : Nat) : List Int := (List.range n).map fun k => headV (dq wide gr xs (k + 1))
/-- the least (or greatest) of the last numbers, at each number -/
def slide (wide : Int) (gr : Bool) (xs : List Int) : List Int := slideN wide gr xs xs.length

theorem slideN_succ (wide : Int) (gr : Bool) (xs : List Int) (n : Nat) : slideN wide gr xs (n + 1) = slideN wide gr xs n ++ [headV (dq wide gr xs (n + 1))] := by
  simp [slideN, List.range_succ]
theorem pushD_length (wide at_ : Int) (gr : Bool) (D : List (Int × Int)) (x : Int) : (pushD wide at_ gr D x).length ≤ D.length + 1 := by
  simp only [pushD]
  split <;> simp <;> omega
theorem dq_length (wide : Int) (gr : Bool) (xs : List Int) (k : Nat) : (dq wide gr xs k).length ≤ k := by
  induction k with
  | zero => exact Nat.le_refl _
  | succ k ih => exact Nat.le_trans (pushD_length _ _ _ _ _) (by omega)

theorem slide_length (wide : Int) (gr : Bool) (xs : List Int) : (slide wide gr xs).length = xs.length := by simp [slide, slideN]

def ups (p : Pol) : List Int := p.steps.map (·.up)
def dns (p : Pol) : List Int := p.steps.map (·.dn)

/-- the first k of the numbers f, then those of l -/
def mixN (f : Nat → Int) (l : List Int) (k : Nat) : List Int := (List.range l.length).map fun i => if i < k then f i else l.getD i 0

theorem mixN_length (f : Nat → Int) (l : List Int) (k : Nat) : (mixN f l k).length = l.length := by simp [mixN]
theorem mixN_zero (f : Nat → Int) (l : List Int) : mixN f l 0 = l := by
  apply List.ext_getElem
  · simp [mixN]
  · intro i h1 h2
    simp [mixN, h2]
theorem mixN_set (f : Nat → Int) (l : List Int) (k : Nat) : (mixN f l k).set k (f k) = mixN f l (k + 1) := by
  apply List.ext_getElem
  · simp [mixN]
  · intro i h1 h2
    have hi : i < l.length := by simpa [mixN] using h2
    rw [List.getElem_set]
    by_cases hik : k = i
    · subst hik; simp [mixN]
    · rw [if_neg hik]
      simp only [mixN, List.getElem_map, List.getElem_range]
      by_cases h3 : i < k
      · rw [if_pos h3, if_pos (by omega)]
      · rw [if_neg h3, if_neg (by omega)]
theorem mixN_get (f : Nat → Int) (l : List Int) (k : Nat) (hk : k < l.length) : (mixN f l k).getD k 0 = l.getD k 0 := by
  simp [mixN, hk]
theorem mixN_all (f : Nat → Int) (l : List Int) : mixN f l l.length = (List.range l.length).map f := by
  unfold mixN
  apply List.map_congr_left
  intro i hi
  rw [if_pos (by simpa using hi)]

/-- the step that each day raises to, the step that each day keeps -/
def raisedAt (p : Pol) (sl : List Int) (i : Nat) : Int := upTo (ups p) (if (i : Int) + 1 < p.hold then 0 else sl.getD i 0)
def raisedS (p : Pol) (days : List Int) : List Int := (List.range days.length).map (raisedAt p (slide p.hold false days))
def keptAt (p : Pol) (sl : List Int) (i : Nat) : Int := upTo (dns p) (sl.getD i 0)
def keptS (p : Pol) (days : List Int) : List Int := (List.range days.length).map (keptAt p (slide p.calm true days))

/-- the step that is decided behind the first k days -/
def decN (up kp : List Int) : Nat → Int
  | 0 => 0
  | k + 1 => max (up.getD k 0) (min (kp.getD k 0) (decN up kp k))
def decL (up kp : List Int) (n : Nat) : List Int := (List.range n).map fun k => decN up kp (k + 1)
theorem decL_succ (up kp : List Int) (n : Nat) : decL up kp (n + 1) = decL up kp n ++ [decN up kp (n + 1)] := by simp [decL, List.range_succ]
def decidedS (p : Pol) (days : List Int) : List Int := decL (raisedS p days) (keptS p days) days.length
/-- the step in force on each day -/
def forceS (p : Pol) (days : List Int) : List Int := (slide (p.notice + 1) false (List.replicate p.notice.toNat 0 ++ decidedS p days)).drop p.notice.toNat

theorem raisedS_length (p : Pol) (days : List Int) : (raisedS p days).length = days.length := by simp [raisedS]
theorem keptS_length (p : Pol) (days : List Int) : (keptS p days).length = days.length := by simp [keptS]
theorem decidedS_length (p : Pol) (days : List Int) : (decidedS p days).length = days.length := by simp [decidedS, decL]
theorem forceS_length (p : Pol) (days : List Int) : (forceS p days).length = days.length := by
  simp [forceS, slide_length, decidedS_length]

end Go.Proofs.YtalcinepeofmcaaDoor.Sp
/- More words for memory. No program is named here. -/
namespace Go.Proofs.YtalcinepeofmcaaDoor
open Go Go.RowKit

section
variable {w w' : World} {e : TypeId} {n c : Nat} {xs : List Value} {fp : List Nat}
theorem OwnA.set_ {g off : Nat} (h : OwnA w e (some ⟨g, off, none⟩) n c xs fp) {k : Nat} (hk : k < n) (u : Value) : OwnA (w.setCell ⟨g, off + k, none⟩ u) e (some ⟨g, off, none⟩) n c (xs.set k u) fp := by
  refine ⟨by rw [List.length_set, h.1], .inr ?_⟩
  rcases h.2 with ⟨h0, _⟩ | ⟨g', off', cur, he, rfl, hh, h1, h2, h3, h4⟩
  · cases h0
  · injection he with he
    injection he with e1 e2 _
    subst e1 e2
    refine ⟨g, off, cur.setIfInBounds (off + k) u, rfl, rfl, heap_set hh _ _, h1, h2, by simpa using h3, fun j v hv => ?_⟩
    rw [List.getElem?_set] at hv
    by_cases hjk : k = j
    · subst hjk
      rw [if_pos rfl] at hv
      split at hv
      · injection hv with e1
        subst e1
        rw [Array.getElem?_setIfInBounds_self_of_lt (by omega)]
      · cases hv
    · rw [if_neg hjk] at hv
      rw [Array.getElem?_setIfInBounds_ne (by omega)]
      exact h4 j v hv
theorem Keep.cell {S : List Nat} (h : Keep S w w') {b o : Nat} {u : Value} (hc : w.cell? ⟨b, o, none⟩ = some u) (hn : b ∉ S) : w'.cell? ⟨b, o, none⟩ = some u :=
  (World.cell?_of_block (w := w) (h.block b (World.block_lt_of_cell? w _ hc) hn)).trans hc
theorem Keep.rd {S : List Nat} {size : Nat} {A : Option Addr} (h : Keep S w w') (hr : Rd w size A n xs) (hn : ∀ b off, A = some ⟨b, off, none⟩ → b ∉ S) : Rd w' size A n xs := by
  refine ⟨hr.1, fun h0 => ?_⟩
  obtain ⟨b, off, e, hl, hc⟩ := hr.2 h0
  exact ⟨b, off, e, Nat.lt_of_lt_of_le hl h.size, fun j u hu => h.cell (hc j u hu) (hn b off e)⟩
theorem Keep.below' {S : List Nat} (h : Keep S w w') {B : Nat} (hB : B ≤ w.heap.size) (hs : ∀ x ∈ S, B ≤ x) : Below B w w' := h.below hB hs
theorem OwnA.mem_ {A : Option Addr} (h : OwnA w e A n c xs fp) (h0 : 0 < n) {b off : Nat} (he : A = some ⟨b, off, none⟩) : b ∈ fp := by
  obtain ⟨g, o, e1, e2, _⟩ := h.some_ h0
  rw [he] at e1
  injection e1 with e1
  injection e1 with e1 _ _
  rw [e2, e1]; simp
theorem cell_new_one (w : World) (u : Value) (t : TypeId) : (w.alloc (.cells #[u] t)).cell? ⟨w.heap.size, 0, none⟩ = some u := by simp [World.cell?_alloc_new]
theorem Rd.lt' {size : Nat} {A : Option Addr} (hr : Rd w size A n xs) (h0 : 0 < n) {b off : Nat} (e : A = some ⟨b, off, none⟩) : b < w.heap.size := by
  obtain ⟨b', off', e', hl, _⟩ := hr.2 h0
  rw [e] at e'
  injection e' with e'
  injection e' with e1 _ _
  omega
end
end Go.Proofs.YtalcinepeofmcaaDoor
/- A region that draws its order, walked operation by operation: each operation keeps an invariant, whatever has been carried out before it. Cost: one small goal an operation, not one an order. -/
namespace Go.Proofs.YtalcinepeofmcaaDoor
open Go

def upd (l : Nat → Bool) (i : Nat) : Nat → Bool := fun j => if j = i then true else l j

def cntFalse (f : Nat → Bool) : Nat → Nat
  | 0 => 0
  | n + 1 => cntFalse f n + (if f n then 0 else 1)

theorem cntFalse_congr {f g : Nat → Bool} : ∀ n, (∀ j, j < n → f j = g j) → cntFalse f n = cntFalse g n
  | 0, _ => rfl
  | n + 1, h => by rw [cntFalse, cntFalse, cntFalse_congr n (fun j hj => h j (by omega)), h n (by omega)]

theorem cntFalse_upd {f : Nat → Bool} {i : Nat} (hf : f i = false) : ∀ n, i < n → cntFalse (upd f i) n + 1 = cntFalse f n
  | 0, h => absurd h (by omega)
  | n + 1, h => by
    by_cases hi : i = n
    · subst hi
      rw [cntFalse, cntFalse, cntFalse_congr i (fun j hj => by simp [upd]; omega : ∀ j, j < i → upd f i j = f j)]
      simp [upd, hf]
    · rw [cntFalse, cntFalse]
      have := cntFalse_upd hf n (by omega)
      have hn : upd f i n = f n := by simp [upd]; omega
      rw [hn]
      omega

theorem cntFalse_zero {f : Nat → Bool} : ∀ n, cntFalse f n = 0 → ∀ j, j < n → f j = true
  | 0, _, j, hj => absurd hj (by omega)
  | n + 1, h, j, hj => by
    rw [cntFalse] at h
    have h1 : f n = true := by
      cases hfn : f n with
      | true => rfl
      | false => rw [hfn] at h; simp at h
    by_cases hjn : j = n
    · subst hjn; exact h1
    · exact cntFalse_zero n (by omega) j (by omega)

theorem cntFalse_le (f : Nat → Bool) : ∀ n, cntFalse f n ≤ n
  | 0 => Nat.le_refl _
  | n + 1 => by rw [cntFalse]; have := cntFalse_le f n; split <;> omega

/-- the frame, when the operations of l have been carried out: each slot that one of them wrote is as φ says, each that none writes is as it was -/
structure FrOk (ops : List Oper) (a0 : Act) (φ : Nat → Value → World → Prop) (l : Nat → Bool) (a : Act) (w : World) : Prop where
  defers : a.defers = a0.defers
  size : a.tmps.size = a0.tmps.size
  other : ∀ t, (∀ j o, ops[j]? = some o → o.dst = some t → l j = false) → a.tmps[t]? = a0.tmps[t]?
  vals : ∀ j o d, l j = true → ops[j]? = some o → o.dst = some d → ∃ v, a.tmps[d]? = some v ∧ φ j v w
  closed : ∀ j o, l j = true → ops[j]? = some o → ∀ e ∈ o.after.toList, Region.binds .any e = true → l e.on = true

/-- what is asked of a region's text, for the kernel to look at -/
def regionOk (ops : List Oper) (n : Nat) : Bool :=
  (ops.filterMap (·.dst)).Nodup && (ops.filterMap (·.dst)).all (· < n) && ops.zipIdx.all (fun p => p.1.guard.isNone && p.1.after.toList.all fun e => !Region.binds .any e || decide (e.on < p.2))

theorem nodup_dst : ∀ {ops : List Oper}, (ops.filterMap (fun o => o.dst)).Nodup → ∀ {i j : Nat} {o o' : Oper} {d : Nat}, ops[i]? = some o → ops[j]? = some o' → o.dst = some d → o'.dst = some d → i = j
  | [], _, i, j, o, o', d, hi, _, _, _ => by simp at hi
  | x :: xs, h, i, j, o, o', d, hi, hj, ho, ho' => by
    have hx : (xs.filterMap (·.dst)).Nodup := by
      cases hxd : x.dst with
      | none => simpa [List.filterMap_cons, hxd] using h
      | some y => rw [List.filterMap_cons, hxd] at h; exact (List.nodup_cons.1 h).2
    have hmem : ∀ {k : Nat} {p : Oper}, xs[k]? = some p → p.dst = some d → x.dst ≠ some d := by
      intro k p hk hp hxd
      rw [List.filterMap_cons, hxd] at h
      exact (List.nodup_cons.1 h).1 (List.mem_filterMap.2 ⟨p, List.mem_of_getElem? hk, hp⟩)
    cases i with
    | zero =>
      cases j with
      | zero => rfl
      | succ j =>
        simp only [List.getElem?_cons_zero, Option.some.injEq] at hi
        subst hi
        exact absurd ho (hmem (by simpa using hj) ho')
    | succ i =>
      cases j with
      | zero =>
        simp only [List.getElem?_cons_zero, Option.some.injEq] at hj
        subst hj
        exact absurd ho' (hmem (by simpa using hi) ho)
      | succ j =>
        have := nodup_dst hx (i := i) (j := j) (by simpa using hi) (by simpa using hj) ho ho'
        omega

/-- f of each operation and its place -/
def AllFrom (f : Nat → Oper → Prop) : Nat → List Oper → Prop
  | _, [] => True
  | k, o :: os => f k o ∧ AllFrom f (k + 1) os

theorem allFrom_get {f : Nat → Oper → Prop} : ∀ {ops : List Oper} {k : Nat}, AllFrom f k ops → ∀ i o, ops[i]? = some o → f (k + i) o
  | [], _, _, i, o, h => by simp at h
  | x :: xs, k, ⟨h1, h2⟩, i, o, h => by
    cases i with
    | zero =>
      simp only [List.getElem?_cons_zero, Option.some.injEq] at h
      subst h
      exact h1
    | succ i =>
      have := allFrom_get h2 i o (by simpa using h)
      rwa [show k + 1 + i = k + (i + 1) from by omega] at this

theorem wp_region_inv {σ : Type} {P : Program} {ops : List Oper} {Q : Exit → Act → World → Prop} {id : Nat} {a0 : Act} {w0 : World} (hm : P.follows .mixedOrders = true)
    (hok : regionOk ops a0.tmps.size = true)
    (φ : σ → Nat → Value → World → Prop) (W : σ → (Nat → Bool) → World → Prop) (s0 : σ) (h0 : W s0 (fun _ => false) w0.drew)
    (hstep : ∀ i o, ops[i]? = some o → ∀ s l a w, l i = false → (∀ e ∈ o.after.toList, Region.binds .any e = true → l e.on = true) → W s l w → FrOk ops a0 (φ s) l a w →
      o.wp P a w (fun a' w' => ∃ s' v, a' = a.put o.dst v ∧ W s' (upd l i) w' ∧ (o.dst.isSome = true → φ s' i v w') ∧ (∀ j u, l j = true → φ s j u w → φ s' j u w')) Q)
    (hfin : ∀ s a w, W s (fun j => decide (j < ops.length)) w → FrOk ops a0 (φ s) (fun j => decide (j < ops.length)) a w → Q .normal a w) :
    (Code.region id ops.toArray true).wp P Q a0 w0 := by
  simp only [regionOk, Bool.and_eq_true, decide_eq_true_eq] at hok
  obtain ⟨⟨hnd, hltB⟩, hgB⟩ := hok
  have hlt : ∀ (o : Oper) (d : Nat), o ∈ ops → o.dst = some d → d < a0.tmps.size := fun o d ho hd => by
    have := List.all_eq_true.1 hltB d (List.mem_filterMap.2 ⟨o, ho, hd⟩)
    simpa using this
  have hg : ∀ i o, ops[i]? = some o → o.guard = none ∧ ∀ e ∈ o.after.toList, Region.binds .any e = true → e.on < i := fun i o ho => by
    have := List.all_eq_true.1 hgB (o, i) (List.mem_zipIdx_iff_getElem?.2 ho)
    simp only [Bool.and_eq_true, Option.isNone_iff_eq_none] at this
    refine ⟨this.1, fun e he hb => ?_⟩
    have h2 := List.all_eq_true.1 this.2 e he
    simpa [hb] using h2
  have hsz : ops.toArray.size = ops.length := by simp
  -- all have been carried out where none may come up
  have hall : ∀ listed : Array Bool, listed.size = ops.length → Region.ready .any ops.toArray listed = [] → ∀ n, ∀ j, j < n → j < ops.length → listed.getD j false = true := by
    intro listed hls hr n
    induction n with
    | zero => intro j hj; omega
    | succ n ih =>
      intro j hj hjl
      by_cases hjn : j < n
      · exact ih j hjn hjl
      · obtain rfl : j = n := by omega
        cases hl : listed.getD j false with
        | true => rfl
        | false =>
          exfalso
          have hl' : listed.getD j true = false ∨ listed.size ≤ j := by
            rcases Nat.lt_or_ge j listed.size with h | h
            · left; simp [h] at hl ⊢; exact hl
            · exact .inr h
          have ho : ops[j]? = some ops[j] := List.getElem?_eq_getElem hjl
          rcases hl' with hl' | hl'
          · have : j ∈ Region.ready .any ops.toArray listed := mem_ready.2 ⟨hl', ops[j], by simp [hjl], fun e he hb => ih e.on ((hg j _ ho).2 e (by simpa using he) hb) (by have := (hg j _ ho).2 e (by simpa using he) hb; omega)⟩
            rw [hr] at this
            cases this
          · omega
  have main : ∀ fuel (listed : Array Bool) (a : Act) (w : World) (s : σ), listed.size = ops.length → cntFalse (fun j => listed.getD j false) ops.length ≤ fuel → W s (fun j => listed.getD j false) w → FrOk ops a0 (φ s) (fun j => listed.getD j false) a w →
      wpAny P .any ops.toArray Q fuel listed a w := by
    intro fuel
    have hend : ∀ (listed : Array Bool) (a : Act) (w : World) (s : σ), listed.size = ops.length → (∀ j, j < ops.length → listed.getD j false = true) → W s (fun j => listed.getD j false) w → FrOk ops a0 (φ s) (fun j => listed.getD j false) a w → Q .normal a w := by
      intro listed a w s hs hl hW hF
      have he : (fun j => listed.getD j false) = fun j => decide (j < ops.length) := by
        funext j
        by_cases hj : j < ops.length
        · rw [hl j hj]; simp [hj]
        · simp [hj, hs]
      rw [he] at hW hF
      exact hfin s a w hW hF
    induction fuel with
    | zero =>
      intro listed a w s hs hc hW hF
      have hl := cntFalse_zero ops.length (Nat.le_zero.1 hc)
      refine ⟨?_, hend listed a w s hs hl hW hF⟩
      apply List.eq_nil_iff_forall_not_mem.2
      intro i hi
      obtain ⟨h1, o, ho, _⟩ := mem_ready.1 hi
      have hil : i < ops.length := by simpa using (Array.getElem?_eq_some_iff.1 ho).1
      have h2 := hl i hil
      have : i < listed.size := by omega
      simp [this] at h1 h2
      rw [h2] at h1
      cases h1
    | succ fuel ih =>
      intro listed a w s hs hc hW hF
      refine ⟨fun hr => hend listed a w s hs (fun j hj => hall listed hs hr (j + 1) j (by omega) hj) hW hF, fun i hi => ?_⟩
      obtain ⟨h1, o, ho, hdep⟩ := mem_ready.1 hi
      have hil : i < ops.length := by simpa using (Array.getElem?_eq_some_iff.1 ho).1
      have ho' : ops[i]? = some o := by rw [← ho]; simp
      have hli : i < listed.size := by omega
      have hl0 : listed.getD i false = false := by simp [hli] at h1 ⊢; exact h1
      have hst := hstep i o ho' s (fun j => listed.getD j false) a w hl0 (fun e he hb => hdep e (by simpa using he) hb) hW hF
      unfold wpOp
      rw [ho]
      simp only [Region.wanted, (hg i o ho').1, if_true]
      refine .inl (Oper.wp_mono ?_ hst)
      rintro a' w' ⟨s', v, rfl, hW', hφ, hstab⟩
      have hupd : (fun j => (listed.setIfInBounds i true).getD j false) = upd (fun j => listed.getD j false) i := by
        funext j
        simp only [upd]
        split
        · rename_i hj; subst hj; simp [hli]
        · rename_i hj; rw [getD_set_ne false (Ne.symm hj)]
      have hcl : ∀ j o', upd (fun j => listed.getD j false) i j = true → ops[j]? = some o' → ∀ e ∈ o'.after.toList, Region.binds .any e = true → upd (fun j => listed.getD j false) i e.on = true := by
        intro j o' hj ho'' e he hb
        have hold : (listed.getD e.on false) = true → upd (fun j => listed.getD j false) i e.on = true := fun h => by simp only [upd]; split <;> first | rfl | exact h
        by_cases hji : j = i
        · subst hji
          rw [ho'] at ho''
          injection ho'' with e1
          subst e1
          exact hold (hdep e (by simpa using he) hb)
        · have hj' : listed.getD j false = true := by simpa [upd, hji] using hj
          exact hold (hF.closed j o' hj' ho'' e he hb)
      have hF' : FrOk ops a0 (φ s') (upd (fun j => listed.getD j false) i) (a.put o.dst v) w' := by
        cases hd : o.dst with
        | none =>
          refine ⟨hF.defers, hF.size, fun t ht => hF.other t (fun j o' hj hd' => by have := ht j o' hj hd'; simp only [upd] at this; split at this <;> first | exact this | cases this), fun j o' d hj ho'' hd' => ?_, hcl⟩
          have hji : j ≠ i := by
            rintro rfl
            rw [ho'] at ho''
            injection ho'' with e
            rw [← e, hd] at hd'
            cases hd'
          have hj' : listed.getD j false = true := by simpa [upd, hji] using hj
          obtain ⟨u, hu, hp⟩ := hF.vals j o' d hj' ho'' hd'
          exact ⟨u, hu, hstab j u hj' hp⟩
        | some d0 =>
          refine ⟨hF.defers, by simp [Act.put, hF.size], fun t ht => ?_, fun j o' d hj ho'' hd' => ?_, hcl⟩
          · have : d0 ≠ t := fun e => by
              have := ht i o ho' (by rw [hd, e])
              simp [upd] at this
            simp only [Act.put]
            rw [Array.getElem?_setIfInBounds_ne this]
            exact hF.other t (fun j o' hj hd' => by have := ht j o' hj hd'; simp only [upd] at this; split at this <;> first | exact this | cases this)
          · by_cases hji : j = i
            · subst hji
              rw [ho'] at ho''
              injection ho'' with e
              subst e
              rw [hd] at hd'
              injection hd' with e
              subst e
              have hlt' : d0 < a.tmps.size := by rw [hF.size]; exact hlt o d0 (List.mem_of_getElem? ho') hd
              exact ⟨v, by simp [Act.put, hlt'], hφ (by rw [hd]; rfl)⟩
            · have hj' : listed.getD j false = true := by simpa [upd, hji] using hj
              obtain ⟨u, hu, hp⟩ := hF.vals j o' d hj' ho'' hd'
              have hne : d0 ≠ d := by
                rintro rfl
                exact hji (nodup_dst hnd ho'' ho' hd' hd)
              refine ⟨u, ?_, hstab j u hj' hp⟩
              simp only [Act.put]
              rw [Array.getElem?_setIfInBounds_ne hne]
              exact hu
      refine ih _ _ _ s' (by simp [hs]) ?_ (by rw [hupd]; exact hW') (by rw [hupd]; exact hF')
      rw [hupd]
      have := cntFalse_upd (f := fun j => listed.getD j false) hl0 ops.length hil
      omega
  refine wp_region_any hm ?_
  rw [hsz]
  have hf : (fun j => (Array.replicate ops.length false).getD j false) = fun _ => false := by
    funext j
    rcases Nat.lt_or_ge j ops.length with h | h <;> simp [h]
  refine main ops.length _ a0 w0.drew s0 (by simp) (cntFalse_le _ _) (by rw [hf]; exact h0) ?_
  exact ⟨rfl, rfl, fun _ _ => rfl, fun j o d hj => (by rw [congrFun hf j] at hj; cases hj), fun j o hj => (by rw [congrFun hf j] at hj; cases hj)⟩
/-- what one operation owes -/
def StepOk {σ : Type} (P : Program) (ops : List Oper) (Q : Exit → Act → World → Prop) (a0 : Act) (φ : σ → Nat → Value → World → Prop) (W : σ → (Nat → Bool) → World → Prop) (i : Nat) (o : Oper) : Prop :=
  ∀ s l a w, l i = false → (∀ e ∈ o.after.toList, Region.binds .any e = true → l e.on = true) → W s l w → FrOk ops a0 (φ s) l a w →
      o.wp P a w (fun a' w' => ∃ s' v, a' = a.put o.dst v ∧ W s' (upd l i) w' ∧ (o.dst.isSome = true → φ s' i v w') ∧ (∀ j u, l j = true → φ s j u w → φ s' j u w')) Q

theorem wp_region_steps {σ : Type} {P : Program} {ops : List Oper} {Q : Exit → Act → World → Prop} {id : Nat} {a0 : Act} {w0 : World} (hm : P.follows .mixedOrders = true)
    (hok : regionOk ops a0.tmps.size = true)
    (φ : σ → Nat → Value → World → Prop) (W : σ → (Nat → Bool) → World → Prop) (s0 : σ) (h0 : W s0 (fun _ => false) w0.drew)
    (hstep : AllFrom (StepOk P ops Q a0 φ W) 0 ops)
    (hfin : ∀ s a w, W s (fun j => decide (j < ops.length)) w → FrOk ops a0 (φ s) (fun j => decide (j < ops.length)) a w → Q .normal a w) :
    (Code.region id ops.toArray true).wp P Q a0 w0 :=
  wp_region_inv hm hok φ W s0 h0 (fun i o ho => by have := allFrom_get hstep i o ho; rwa [Nat.zero_add] at this) hfin

/-- an operation that only computes or reads -/
theorem step_pure {σ : Type} {P : Program} {ops : List Oper} {Q : Exit → Act → World → Prop} {a0 : Act} {φ : σ → Nat → Value → World → Prop} {W : σ → (Nat → Bool) → World → Prop} {i : Nat} {o : Oper}
    (h : ∀ s l a w, l i = false → (∀ e ∈ o.after.toList, Region.binds .any e = true → l e.on = true) → W s l w → FrOk ops a0 (φ s) l a w →
      W s (upd l i) w ∧ ∃ v, (execOp a.eval o).run P w = .ok (.value v) w ∧ φ s i v w) : StepOk P ops Q a0 φ W i o := by
  intro s l a w hl hd hW hF
  obtain ⟨hW', v, hr, hp⟩ := h s l a w hl hd hW hF
  unfold Oper.wp
  rw [hr]
  exact ⟨s, v, rfl, hW', fun _ => hp, fun _ _ _ h => h⟩

/-- an operation that yields a value and turns the world -/
theorem step_run {σ : Type} {P : Program} {ops : List Oper} {Q : Exit → Act → World → Prop} {a0 : Act} {φ : σ → Nat → Value → World → Prop} {W : σ → (Nat → Bool) → World → Prop} {i : Nat} {o : Oper}
    (h : ∀ s l a w, l i = false → (∀ e ∈ o.after.toList, Region.binds .any e = true → l e.on = true) → W s l w → FrOk ops a0 (φ s) l a w →
      ∃ v w' s', (execOp a.eval o).run P w = .ok (.value v) w' ∧ W s' (upd l i) w' ∧ φ s' i v w' ∧ (∀ j u, l j = true → φ s j u w → φ s' j u w')) : StepOk P ops Q a0 φ W i o := by
  intro s l a w hl hd hW hF
  obtain ⟨v, w', s', hr, hW', hp, hst⟩ := h s l a w hl hd hW hF
  unfold Oper.wp
  rw [hr]
  exact ⟨s', v, rfl, hW', fun _ => hp, hst⟩

/-- a store -/
theorem step_store {σ : Type} {P : Program} {ops : List Oper} {Q : Exit → Act → World → Prop} {a0 : Act} {φ : σ → Nat → Value → World → Prop} {W : σ → (Nat → Bool) → World → Prop} {i : Nat} {o : Oper} (hn : o.dst = none)
    (h : ∀ s l a w, l i = false → (∀ e ∈ o.after.toList, Region.binds .any e = true → l e.on = true) → W s l w → FrOk ops a0 (φ s) l a w →
      ∃ w' s' r, (execOp a.eval o).run P w = .ok r w' ∧ (r = .skip ∨ ∃ v, r = .value v) ∧ W s' (upd l i) w' ∧ (∀ j u, l j = true → φ s j u w → φ s' j u w')) : StepOk P ops Q a0 φ W i o := by
  intro s l a w hl hd hW hF
  obtain ⟨w', s', r, hr, hr', hW', hst⟩ := h s l a w hl hd hW hF
  unfold Oper.wp
  rw [hr]
  rcases hr' with rfl | ⟨v, rfl⟩
  · exact ⟨s', undef, rfl, hW', fun hs => (by rw [hn] at hs; cases hs), hst⟩
  · exact ⟨s', v, rfl, hW', fun hs => (by rw [hn] at hs; cases hs), hst⟩

/-- a call of a Go function -/
theorem step_call {σ : Type} {P : Program} {ops : List Oper} {Q : Exit → Act → World → Prop} {a0 : Act} {φ : σ → Nat → Value → World → Prop} {W : σ → (Nat → Bool) → World → Prop} {i : Nat} {o : Oper}
    (h : ∀ s l a w, l i = false → (∀ e ∈ o.after.toList, Region.binds .any e = true → l e.on = true) → W s l w → FrOk ops a0 (φ s) l a w →
      ∃ f args, (execOp a.eval o).run P w = .ok (.enter f args) w ∧ Calls P f args w fun e w' => ∃ v s', e = .returned v ∧ W s' (upd l i) w' ∧ φ s' i v w' ∧ (∀ j u, l j = true → φ s j u w → φ s' j u w')) : StepOk P ops Q a0 φ W i o := by
  intro s l a w hl hd hW hF
  obtain ⟨f, args, hr, hc⟩ := h s l a w hl hd hW hF
  unfold Oper.wp
  rw [hr, Oper.upon_enter]
  refine hc.mono ?_
  rintro e w' ⟨v, s', rfl, hW', hp, hst⟩
  exact ⟨s', v, rfl, hW', fun _ => hp, hst⟩

section
variable {ops : List Oper} {a0 : Act} {φ : Nat → Value → World → Prop} {l : Nat → Bool} {a : Act} {w : World}
/-- j waits for i -/
theorem FrOk.notYet (h : FrOk ops a0 φ l a w) (i j : Nat) (hi : l i = false) (hw : ((ops[j]?).map fun o => o.after.toList.any fun e => Region.binds .any e && e.on == i) = some true) : l j = false := by
  cases hj : l j with
  | false => rfl
  | true =>
    cases ho : ops[j]? with
    | none => rw [ho] at hw; cases hw
    | some o =>
      rw [ho] at hw
      simp only [Option.map_some, Option.some.injEq] at hw
      obtain ⟨e, he, hb⟩ := List.any_eq_true.1 hw
      simp only [Bool.and_eq_true, beq_iff_eq] at hb
      have := h.closed j o hj ho e he hb.1
      rw [hb.2, hi] at this
      cases this
/-- i has been carried out where j has, which waits for it -/
theorem FrOk.before (h : FrOk ops a0 φ l a w) (i j : Nat) (hj : l j = true) (hw : ((ops[j]?).map fun o => o.after.toList.any fun e => Region.binds .any e && e.on == i) = some true) : l i = true := by
  cases hi : l i with
  | true => rfl
  | false => rw [h.notYet i j hi hw] at hj; cases hj
theorem FrOk.old (h : FrOk ops a0 φ l a w) (t : Nat) (ht : ops.all (fun o => decide (o.dst ≠ some t)) = true) : a.eval (.tmp t) = a0.eval (.tmp t) := by
  have := h.other t (fun j o ho hd => absurd hd (by simpa using List.all_eq_true.1 ht o (List.mem_of_getElem? ho)))
  simp only [Act.eval, Array.getD_eq_getD_getElem?, this]
/-- a slot that j alone writes, and j has not been carried out -/
theorem FrOk.was (h : FrOk ops a0 φ l a w) (j t : Nat) (hl : l j = false) (ht : ops.zipIdx.all (fun p => decide (p.1.dst ≠ some t) || p.2 == j) = true) : a.eval (.tmp t) = a0.eval (.tmp t) := by
  have := h.other t (fun i o ho hd => by
    have h1 := List.all_eq_true.1 ht (o, i) (List.mem_zipIdx_iff_getElem?.2 ho)
    simp [hd] at h1
    rw [h1]; exact hl)
  simp only [Act.eval, Array.getD_eq_getD_getElem?, this]
theorem FrOk.new (h : FrOk ops a0 φ l a w) (j d : Nat) (hl : l j = true) (hd : (ops[j]?).bind (·.dst) = some d) : φ j (a.eval (.tmp d)) w := by
  cases ho : ops[j]? with
  | none => rw [ho] at hd; cases hd
  | some o =>
    rw [ho] at hd
    obtain ⟨v, hv, hp⟩ := h.vals j o d hl ho hd
    simpa [Act.eval, Array.getD_eq_getD_getElem?, hv] using hp

theorem foldl_set (f : Nat → Value) : ∀ (ts : List Nat) (z : Array Value), (ts.foldl (fun z t => z.setIfInBounds t (f t)) z).size = z.size ∧
    ∀ i, i < z.size → (ts.foldl (fun z t => z.setIfInBounds t (f t)) z)[i]? = if i ∈ ts then some (f i) else z[i]?
  | [], z => ⟨rfl, fun i _ => by simp⟩
  | t :: ts, z => by
    obtain ⟨h1, h2⟩ := foldl_set f ts (z.setIfInBounds t (f t))
    refine ⟨by simpa using h1, fun i hi => ?_⟩
    have := h2 i (by simpa using hi)
    simp only [List.foldl_cons]
    rw [this]
    by_cases hts : i ∈ ts
    · simp [hts]
    · by_cases hit : t = i
      · subst hit; simp [hts, hi]
      · simp [hts, Array.getElem?_setIfInBounds_ne hit, Ne.symm hit]

/-- the frame behind the region, written out -/
theorem FrOk.lit (h : FrOk ops a0 φ (fun j => decide (j < ops.length)) a w) : ∃ f : Nat → Value, (∀ t, f t = a.eval (.tmp t)) ∧ a = { tmps := (ops.filterMap (fun o => o.dst)).foldl (fun z t => z.setIfInBounds t (f t)) a0.tmps, defers := a0.defers } := by
  refine ⟨fun t => a.eval (.tmp t), fun _ => rfl, ?_⟩
  obtain ⟨h1, h2⟩ := foldl_set (fun t => a.eval (.tmp t)) (ops.filterMap (fun o => o.dst)) a0.tmps
  have ht : a.tmps = (ops.filterMap (fun o => o.dst)).foldl (fun z t => z.setIfInBounds t (a.eval (.tmp t))) a0.tmps := by
    apply Array.ext_getElem?
    intro i
    rcases Nat.lt_or_ge i a0.tmps.size with hi | hi
    · rw [h2 i hi]
      split
      · simp [Act.eval, Array.getD_eq_getD_getElem?, h.size, hi]
      · rename_i hn
        exact h.other i (fun j o ho hd => absurd (List.mem_filterMap.2 ⟨o, List.mem_of_getElem? ho, hd⟩) hn)
    · rw [Array.getElem?_eq_none (by rw [h.size]; exact hi), Array.getElem?_eq_none (by rw [h1]; exact hi)]
  obtain ⟨tm, df⟩ := a
  have hdf := h.defers
  simp only at ht hdf ⊢
  rw [hdf]
  congr 1
end
end Go.Proofs.YtalcinepeofmcaaDoor
