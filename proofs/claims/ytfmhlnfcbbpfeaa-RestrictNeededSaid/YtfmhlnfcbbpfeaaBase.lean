/- Memory words shared by all walks of this seat: what a slice reads as, which blocks are kept. No program is named here. -/
import Derived.WalkKit
import Derived.WalkSpells
import Derived.WalkLawsBesides
import Derived.Lib.Hide
import Derived.Laws.OwnMore
import Derived.Below
import Derived.Maps.AppendAt
import Derived.BigQuiet
import Derived.BigRegion
import Derived.Deep.QuietTactic
import Derived.Deep.RegionLaw
import Derived.Deep.RegionWith
import Derived.Deep.DeepCutAuto
import Derived.Deep.LoopGhost
import Derived.Deep.DeepFit
import Derived.Deep.Draws
import Derived.Deep.AppendLies
import Derived.Deep.CutBlock
import Derived.Deep.RegionLawGrows
namespace Go.Proofs.Ytfmhlnfcbbpfeaa
open Go Go.RowKit



/-- The slice (A, n) reads as the cells xs, size cells an element. -/
def Rd (w : World) (size : Nat) (A : Option Addr) (n : Nat) (xs : List Value) : Prop :=
  xs.length = n * size ∧ (0 < n → ∃ b off, A = some ⟨b, off, none⟩ ∧ b < w.heap.size ∧ ∀ j u, xs[j]? = some u → w.cell? ⟨b, off + j, none⟩ = some u)

section
variable {w w' : World} {size n : Nat} {A : Option Addr} {xs : List Value}
theorem Rd.nil (w : World) (size : Nat) (A : Option Addr) : Rd w size A 0 [] := ⟨by simp, fun h => absurd h (by omega)⟩
theorem Rd.below (h : Rd w size A n xs) (hb : Below w.heap.size w w') : Rd w' size A n xs := by
  refine ⟨h.1, fun hn => ?_⟩
  obtain ⟨b, off, e, hl, hc⟩ := h.2 hn
  exact ⟨b, off, e, Nat.lt_of_lt_of_le hl hb.size, fun j u hu => (hb.cell (p := ⟨b, off + j, none⟩) hl).trans (hc j u hu)⟩
theorem Rd.below2 {w0 : World} (h : Rd w0 size A n xs) (hb : Below w0.heap.size w0 w') : Rd w' size A n xs := h.below hb
theorem Rd.one (h : Rd w 1 A n xs) {k : Nat} (hk : k < n) : ∃ b off u, A = some ⟨b, off, none⟩ ∧ b < w.heap.size ∧ xs[k]? = some u ∧ w.cell? ⟨b, off + k, none⟩ = some u := by
  obtain ⟨b, off, e, hl, hc⟩ := h.2 (by omega)
  have hx : k < xs.length := by have := h.1; omega
  exact ⟨b, off, xs[k], e, hl, List.getElem?_eq_getElem hx, hc k _ (List.getElem?_eq_getElem hx)⟩
theorem Rd.of_own {base : Nat} {e : TypeId} {c : Nat} (h : w.ownsRow base e size (.slice A n c) n xs) : Rd w size A n xs := by
  refine ⟨h.1, fun hn => ?_⟩
  obtain ⟨g, cap, hv, _, hlt⟩ := h.form hn
  have hA : A = some ⟨g, 0, none⟩ := by injection hv
  subst hA
  refine ⟨g, 0, rfl, hlt, fun j u hu => ?_⟩
  have := h.cells (g := g) rfl j u hu
  rwa [Addr.add_lit] at this
end

theorem bcell {w w' : World} (hb : Below w.heap.size w w') : (∀ b o, b < w.heap.size → w'.cell? ⟨b, o, none⟩ = w.cell? ⟨b, o, none⟩) ∧ (∀ b o, b < w.heap.size → w'.frozen? ⟨b, o, none⟩ = w.frozen? ⟨b, o, none⟩) :=
  ⟨fun b o h => hb.cell (p := ⟨b, o, none⟩) h, fun b o h => hb.frozen (p := ⟨b, o, none⟩) h⟩

/-- w' is w but for the blocks of S, and new blocks. -/
structure Keep (S : List Nat) (w w' : World) : Prop where
  os : w'.os = w.os
  tape : w'.tape = w.tape
  output : w'.output = w.output
  size : w.heap.size ≤ w'.heap.size
  block : ∀ k, k < w.heap.size → k ∉ S → w'.heap[k]? = w.heap[k]?

section
variable {S S' : List Nat} {w w' w'' : World}
theorem Keep.refl (S : List Nat) (w : World) : Keep S w w := ⟨rfl, rfl, rfl, Nat.le_refl _, fun _ _ _ => rfl⟩
theorem Keep.trans (h : Keep S w w') (k : Keep S' w' w'') (hs : ∀ x ∈ S', x ∈ S ∨ w.heap.size ≤ x) : Keep S w w'' :=
  ⟨k.os.trans h.os, k.tape.trans h.tape, k.output.trans h.output, Nat.le_trans h.size k.size, fun i hi hn =>
    (k.block i (Nat.lt_of_lt_of_le hi h.size) (fun hm => by rcases hs i hm with h1 | h1; exact hn h1; omega)).trans (h.block i hi hn)⟩
theorem Keep.mono (h : Keep S w w') (hs : ∀ x ∈ S, x ∈ S' ∨ w.heap.size ≤ x) : Keep S' w w' :=
  ⟨h.os, h.tape, h.output, h.size, fun i hi hn => h.block i hi (fun hm => by rcases hs i hm with h1 | h1; exact hn h1; omega)⟩
theorem Keep.below (h : Keep S w w') {B : Nat} (hB : B ≤ w.heap.size) (hs : ∀ x ∈ S, B ≤ x) : Below B w w' :=
  ⟨h.os, h.tape, h.output, h.size, fun i hi => h.block i (by omega) (fun hm => by have := hs i hm; omega)⟩
theorem Keep.of_below (h : Below w.heap.size w w') : Keep S w w' := ⟨h.os, h.tape, h.output, h.size, fun i hi _ => h.block i hi⟩
theorem Keep.drew (h : Keep S w w') : Keep S w w'.drew := ⟨h.os, h.tape, h.output, h.size, h.block⟩
theorem Keep.drewN (h : Keep S w w') (n : Nat) : Keep S w (w'.drewN n) := ⟨h.os, h.tape, h.output, h.size, h.block⟩
theorem Keep.alloc (h : Keep S w w') (o : Obj) : Keep S w (w'.alloc o) :=
  ⟨h.os, h.tape, h.output, by have := h.size; simp; omega, fun i hi hn => by rw [Below.heap_alloc _ _ _ (by have := h.size; omega)]; exact h.block i hi hn⟩
theorem Keep.setCell (h : Keep S w w') {p : Addr} (hp : p.block ∈ S ∨ w.heap.size ≤ p.block) (u : Value) : Keep S w (w'.setCell p u) :=
  ⟨h.os, h.tape, h.output, by have := h.size; simpa [World.setCell] using this, fun i hi hn => by
    rw [Below.heap_setCell _ _ _ _ (fun e => by subst e; rcases hp with h1 | h1; exact hn h1; omega)]; exact h.block i hi hn⟩
theorem Keep.grown (h : Keep S w w') {row : Option Nat} (hg : w'.grownBy w'' row) (hr : ∀ g, row = some g → g ∈ S ∨ w.heap.size ≤ g) : Keep S w w'' :=
  ⟨hg.os.trans h.os, hg.tape.trans h.tape, hg.output.trans h.output, Nat.le_trans h.size hg.size, fun i hi hn => by
    rw [hg.block i (by have := h.size; omega) (fun e => by rcases hr i e.symm with h1 | h1; exact hn h1; omega)]; exact h.block i hi hn⟩
end

theorem heap_set {w : World} {g : Nat} {cs : Array Value} {t : TypeId} {fr : Nat × Nat} (h : w.heap[g]? = some (.cells cs t fr)) (i : Nat) (u : Value) :
    (w.setCell ⟨g, i, none⟩ u).heap[g]? = some (.cells (cs.setIfInBounds i u) t fr) := by
  simp [World.setCell, Array.getElem?_modify, h]
theorem heap_set_ne {w : World} {g : Nat} {o : Option Obj} (h : w.heap[g]? = o) {p : Addr} (hp : g ≠ p.block) (u : Value) : (w.setCell p u).heap[g]? = o :=
  (Below.heap_setCell w p u g hp).trans h
theorem heap_lt {w : World} {g : Nat} {o : Obj} (h : w.heap[g]? = some o) : g < w.heap.size := (Array.getElem?_eq_some_iff.1 h).1
theorem heap_alloc' {w : World} {g : Nat} {o : Obj} (h : w.heap[g]? = some o) (o' : Obj) : (w.alloc o').heap[g]? = some o := (Below.heap_alloc w o' g (heap_lt h)).trans h
theorem frozen_of_heap {w : World} {g : Nat} {cs : Array Value} {t : TypeId} (h : w.heap[g]? = some (.cells cs t (0, 0))) (i : Nat) : w.frozen? ⟨g, i, none⟩ = false := by simp [World.frozen?, h]
theorem cell_of_heap {w : World} {g : Nat} {cs : Array Value} {t : TypeId} {fr : Nat × Nat} (h : w.heap[g]? = some (.cells cs t fr)) (i : Nat) : w.cell? ⟨g, i, none⟩ = cs[i]? := cell_of_row w g i cs t fr h

/-- A slice value (A, n, c) of one-cell elements, nil or in a block of its own (perhaps not from the block's head): fp: its block. It may be appended to in place. -/
def OwnA (w : World) (e : TypeId) (A : Option Addr) (n c : Nat) (xs : List Value) (fp : List Nat) : Prop :=
  xs.length = n ∧ ((A = none ∧ n = 0 ∧ c = 0 ∧ fp = []) ∨
    ∃ g off cur, A = some ⟨g, off, none⟩ ∧ fp = [g] ∧ w.heap[g]? = some (.cells cur e (0, 0)) ∧ n ≤ c ∧ c ≤ 9223372036854775807 ∧ off + c = cur.size ∧ ∀ j u, xs[j]? = some u → cur[off + j]? = some u)

section
variable {w w' : World} {e : TypeId} {A : Option Addr} {n c : Nat} {xs : List Value} {fp : List Nat}
theorem OwnA.lt (h : OwnA w e A n c xs fp) : ∀ g ∈ fp, g < w.heap.size := by
  intro g hg
  rcases h.2 with ⟨_, _, _, rfl⟩ | ⟨g', off, cur, rfl, rfl, hh, _⟩
  · simp at hg
  · obtain rfl : g = g' := by simpa using hg
    exact heap_lt hh
theorem OwnA.ge (h : OwnA w e A n c xs fp) : n ≤ c := by
  rcases h.2 with ⟨_, rfl, rfl, _⟩ | ⟨g', off, cur, rfl, rfl, hh, h1, _⟩ <;> omega
theorem OwnA.keepS {S : List Nat} (h : OwnA w e A n c xs fp) (hk : Keep S w w') (hd : ∀ g ∈ fp, g ∉ S) : OwnA w' e A n c xs fp := by
  refine ⟨h.1, ?_⟩
  rcases h.2 with h0 | ⟨g, off, cur, rfl, rfl, hh, r⟩
  · exact .inl h0
  · exact .inr ⟨g, off, cur, rfl, rfl, (hk.block g (heap_lt hh) (hd g (by simp))).trans hh, r⟩
theorem OwnA.alloc (h : OwnA w e A n c xs fp) (o : Obj) : OwnA (w.alloc o) e A n c xs fp := h.keepS ((Keep.refl [] w).alloc o) (by simp)
theorem OwnA.drewN (h : OwnA w e A n c xs fp) (k : Nat) : OwnA (w.drewN k) e A n c xs fp := h
theorem OwnA.setCell {p : Addr} (h : OwnA w e A n c xs fp) (hp : p.block ∉ fp) (u : Value) : OwnA (w.setCell p u) e A n c xs fp :=
  h.keepS ((Keep.refl [p.block] w).setCell (.inl (by simp)) u) (by simp; rintro g hg rfl; exact hp hg)
theorem OwnA.nil (w : World) (e : TypeId) : OwnA w e none 0 0 [] [] := ⟨rfl, .inl ⟨rfl, rfl, rfl, rfl⟩⟩
/-- cut to its first k elements -/
theorem OwnA.take (h : OwnA w e A n c xs fp) {k : Nat} (hk : k ≤ n) : OwnA w e A k c (xs.take k) fp := by
  refine ⟨by rw [List.length_take, h.1]; omega, ?_⟩
  rcases h.2 with ⟨a, b, c', d⟩ | ⟨g, off, cur, rfl, rfl, hh, h1, h2, h3, h4⟩
  · exact .inl ⟨a, by omega, c', d⟩
  · refine .inr ⟨g, off, cur, rfl, rfl, hh, by omega, h2, h3, fun j u hu => h4 j u ?_⟩
    rw [List.getElem?_take] at hu
    split at hu
    · exact hu
    · cases hu
theorem OwnA.some_ (h : OwnA w e A n c xs fp) (hn : 0 < n) : ∃ g off, A = some ⟨g, off, none⟩ ∧ fp = [g] ∧ g < w.heap.size ∧ (∀ j u, xs[j]? = some u → w.cell? ⟨g, off + j, none⟩ = some u) ∧ (∀ j, w.frozen? ⟨g, j, none⟩ = false) := by
  rcases h.2 with ⟨_, h0, _⟩ | ⟨g, off, cur, rfl, rfl, hh, h1, h2, h3, h4⟩
  · omega
  · exact ⟨g, off, rfl, rfl, heap_lt hh, fun j u hu => (cell_of_heap hh _).trans (h4 j u hu), fun j => frozen_of_heap hh j⟩
theorem OwnA.rd (h : OwnA w e A n c xs fp) : Rd w 1 A n xs := by
  refine ⟨by rw [h.1]; omega, fun hn => ?_⟩
  obtain ⟨g, off, e, _, hl, hc, _⟩ := h.some_ hn
  exact ⟨g, off, e, hl, hc⟩
/-- without its first element -/
theorem OwnA.tail {g off : Nat} (h : OwnA w e (some ⟨g, off, none⟩) n c xs fp) (hn : 1 < n) : OwnA w e (some ⟨g, off + 1, none⟩) (n - 1) (c - 1) xs.tail fp := by
  refine ⟨by rw [List.length_tail, h.1], .inr ?_⟩
  rcases h.2 with ⟨h0, _⟩ | ⟨g', off', cur, he, rfl, hh, h1, h2, h3, h4⟩
  · cases h0
  · injection he with he
    injection he with e1 e2 _
    subst e1 e2
    refine ⟨g, off + 1, cur, rfl, rfl, hh, by omega, by omega, by omega, fun j u hu => ?_⟩
    rw [List.getElem?_tail] at hu
    have := h4 (j + 1) u hu
    rwa [show off + (j + 1) = off + 1 + j from by omega] at this

variable {P : Program}
theorem setCells_one (w : World) (b off : Nat) (u : Value) : w.setCells b off [u] = w.setCell ⟨b, off, none⟩ u := by
  simp [World.setCells]
/-- append of one element onto such a slice -/
theorem run_append_A (t ty : TypeId) (i : TypeInfo) (z : Value) (bytes : Nat) (ht : P.underlying t = some (.slice e)) (hi : P.info? e = some i) (hz : i.zero = some z)
    (hsize : i.size = 1) (hby : i.bytes = bytes) (hzs : z.cells.size = 1) (hown : OwnA w e A n c xs fp) (ad : Addr) (u : Value) (hu : w.cell? ad = some u) (h1 : u.oneCell' = true)
    (hn : n + 1 ≤ 1000000000000) (hbytes : bytes ≤ 100) :
    ∃ g off c' w', (Builtin.append_ #[t, t] ty #[.slice A n c, .slice (some ad) 1 1]).run P w = .ok (.slice (some ⟨g, off, none⟩) (n + 1) c') w' ∧
      OwnA w' e (some ⟨g, off, none⟩) (n + 1) c' (xs ++ [u]) [g] ∧ (g ∈ fp ∨ w.heap.size = g) ∧ g < w'.heap.size ∧ Keep fp w w' := by
  subst hby
  have hb1 : (n + 1) * i.bytes ≤ 140737488355328 := Nat.le_trans (Nat.mul_le_mul hn hbytes) (by decide)
  have hnews : ∀ j v, [u][j]? = some v → w.cell? (ad.add j) = some v := by
    intro j v hv
    cases j with
    | zero => simpa [Addr.add] using (by simpa using hv : u = v) ▸ hu
    | succ j => simp at hv
  have hl : [u].length = 1 * i.size := by simp [hsize]
  have h1' : ∀ v ∈ [u], v.oneCell' = true := by simpa using h1
  have hmx : n + 1 ≤ maxLen := by simp only [maxLen]; omega
  -- the new block
  have grown : ∀ (old : Nat) (olds : List Value), olds = xs → 
      OwnA (w.drew.alloc (.cells (olds.toArray ++ [u].toArray ++ Builtin.zeroCells z.cells (grownCap w (n + 1) old e - (n + 1))) e)) e (some ⟨w.heap.size, 0, none⟩) (n + 1) (grownCap w (n + 1) old e) (xs ++ [u]) [w.heap.size] := by
    rintro old olds rfl
    have hge := grownCap_ge w (n + 1) old e
    have hcm : grownCap w (n + 1) old e ≤ maxLen := grownCap_le_maxLen w (n + 1) old e hmx
    simp only [maxLen] at hcm
    refine ⟨by simp [hown.1], .inr ⟨_, 0, _, rfl, rfl, heap_alloc_new w.drew _, hge, hcm, ?_, ?_⟩⟩
    · simp only [Array.size_append, List.size_toArray, size_zeroCells, hzs, hown.1, List.length_singleton]
      omega
    · intro j v hv
      have hlt : j < (olds ++ [u]).length := (List.getElem?_eq_some_iff.1 hv).1
      rw [Nat.zero_add, Array.getElem?_append_left (by simpa using hlt)]
      simpa using hv
  have hkeep : ∀ o : Obj, Keep fp w (w.drew.alloc o) := fun o => ((Keep.refl fp w).drew).alloc o
  rcases hown.2 with ⟨rfl, rfl, rfl, rfl⟩ | ⟨g, off, cur, rfl, rfl, hh, hnc, hcm, hcs, hat⟩
  · have hx : xs = [] := List.eq_nil_of_length_eq_zero hown.1
    subst hx
    have hr := run_append_nil (P := P) w t ty e i z ht hi hz ad 1 1 [u] hl hnews (by omega) (by omega) (by simp at hb1; omega)
    have hg := grown 0 [] rfl
    simp only [Nat.zero_add, List.nil_append, Array.empty_append] at hg ⊢
    exact ⟨_, 0, _, _, hr, hg, .inr rfl, by simp, hkeep _⟩
  · by_cases hroom : n + 1 ≤ c
    · have hlt : off + n < cur.size := by omega
      have hr := run_append_room_cells (P := P) w t ty e i ht hi g off n c ad 1 1 [u] hl hnews h1' hroom (by
        intro j hj
        obtain rfl : j = 0 := by simpa using hj
        have hlt' : off + n * i.size + 0 < cur.size := by rw [hsize]; omega
        rw [cell_of_heap hh, Array.getElem?_eq_getElem hlt']
        rfl) (by intro j hj; exact frozen_of_heap hh _)
      refine ⟨g, off, c, _, hr, ⟨by simp [hown.1], .inr ⟨g, off, cur.setIfInBounds (off + n) u, rfl, rfl, ?_, hroom, hcm, by simp [hcs], ?_⟩⟩, .inl (by simp), ?_, ?_⟩
      · rw [setCells_one, hsize, Nat.mul_one]
        exact heap_set hh _ _
      · intro j v hv
        rw [List.getElem?_append] at hv
        split at hv
        · rename_i hj
          rw [Array.getElem?_setIfInBounds_ne (by have := hown.1; omega)]
          exact hat j v hv
        · rename_i hj
          have hj2 : j = n := by
            have h5 := (List.getElem?_eq_some_iff.1 hv).1
            have h6 := hown.1
            simp at h5
            omega
          subst hj2
          have h7 : u = v := by simpa [hown.1] using hv
          subst h7
          simp [hlt]
      · rw [setCells_one]
        have := heap_lt hh
        simpa [World.setCell] using this
      · rw [setCells_one]
        exact (Keep.refl _ _).setCell (.inl (by simp)) _
    · have holds : ∀ j v, xs[j]? = some v → w.cell? ((⟨g, off, none⟩ : Addr).add j) = some v := by
        intro j v hv
        rw [show (⟨g, off, none⟩ : Addr).add j = ⟨g, off + j, none⟩ from by simp [Addr.add]]
        exact (cell_of_heap hh _).trans (hat j v hv)
      have hr := run_append_grow (P := P) w t ty e i z ht hi hz ⟨g, off, none⟩ n c xs (by simp [hown.1, hsize]) holds ad 1 1 [u] hl hnews (by omega) (by omega) (growslice_fits (by omega) hb1)
      exact ⟨_, 0, _, _, hr, grown c xs rfl, .inr rfl, by simp, hkeep _⟩

/-- at an operation -/
theorem wp_append_A {o : Oper} {a : Act} {K : Act → World → Prop} {Q : Exit → Act → World → Prop} (s x : Operand) (t : TypeId)
    (ho : o.op = .call { callee := .builtin .append, args := #[s, x], argTypes := #[t, t] })
    (i : TypeInfo) (z : Value) (bytes : Nat) (ht : P.underlying t = some (.slice e)) (hi : P.info? e = some i) (hz : i.zero = some z)
    (hsize : i.size = 1) (hby : i.bytes = bytes) (hzs : z.cells.size = 1) (hs : a.eval s = .slice A n c) (ad : Addr) (hx : a.eval x = .slice (some ad) 1 1)
    (u : Value) (hown : OwnA w e A n c xs fp) (hu : w.cell? ad = some u) (h1 : u.oneCell' = true)
    (hn : n + 1 ≤ 1000000000000) (hbytes : bytes ≤ 100)
    (h : ∀ g off c' w', OwnA w' e (some ⟨g, off, none⟩) (n + 1) c' (xs ++ [u]) [g] → (g ∈ fp ∨ w.heap.size = g) → g < w'.heap.size → Keep fp w w' → K (a.put o.dst (.slice (some ⟨g, off, none⟩) (n + 1) c')) w') : o.wp P a w K Q := by
  obtain ⟨g, off, c', w', hr, h2, h3, h4, h5⟩ := run_append_A (P := P) t o.type i z bytes ht hi hz hsize hby hzs hown ad u hu h1 hn hbytes
  unfold Oper.wp execOp
  simp only [ho, resolve, invoke, builtin, Sem.run_bind, Sem.run_pure, Result.andThen_ok, List.map_toArray, List.map_cons, List.map_nil, hs, hx, hr]
  exact h g off c' w' h2 h3 h4 h5

theorem wpList_append_A {ops : Array Oper} {rest : List Oper} {o : Oper} {a : Act} {Q : Exit → Act → World → Prop} (hgd : o.guard = none) (s x : Operand) (t : TypeId)
    (ho : o.op = .call { callee := .builtin .append, args := #[s, x], argTypes := #[t, t] })
    (i : TypeInfo) (z : Value) (bytes : Nat) (ht : P.underlying t = some (.slice e)) (hi : P.info? e = some i) (hz : i.zero = some z)
    (hsize : i.size = 1) (hby : i.bytes = bytes) (hzs : z.cells.size = 1) (hs : a.eval s = .slice A n c) (ad : Addr) (hx : a.eval x = .slice (some ad) 1 1)
    (u : Value) (hown : OwnA w e A n c xs fp) (hu : w.cell? ad = some u) (h1 : u.oneCell' = true)
    (hn : n + 1 ≤ 1000000000000) (hbytes : bytes ≤ 100)
    (h : ∀ g off c' w', OwnA w' e (some ⟨g, off, none⟩) (n + 1) c' (xs ++ [u]) [g] → (g ∈ fp ∨ w.heap.size = g) → g < w'.heap.size → Keep fp w w' → wpList P ops Q rest (a.put o.dst (.slice (some ⟨g, off, none⟩) (n + 1) c')) w') : wpList P ops Q (o :: rest) a w :=
  wpList_plain hgd fun _ hK => wp_append_A s x t ho i z bytes ht hi hz hsize hby hzs hs ad hx u hown hu h1 hn hbytes fun g off c' w' h2 h3 h4 h5 => hK _ _ (h g off c' w' h2 h3 h4 h5)

theorem step_append_A {ops : Array Oper} {o : Oper} {a : Act} {K : Act → World → Prop} {Q : Exit → Act → World → Prop} {E : Prop} (hgd : o.guard = none) (s x : Operand) (t : TypeId)
    (ho : o.op = .call { callee := .builtin .append, args := #[s, x], argTypes := #[t, t] })
    (i : TypeInfo) (z : Value) (bytes : Nat) (ht : P.underlying t = some (.slice e)) (hi : P.info? e = some i) (hz : i.zero = some z)
    (hsize : i.size = 1) (hby : i.bytes = bytes) (hzs : z.cells.size = 1) (hs : a.eval s = .slice A n c) (ad : Addr) (hx : a.eval x = .slice (some ad) 1 1)
    (u : Value) (hown : OwnA w e A n c xs fp) (hu : w.cell? ad = some u) (h1 : u.oneCell' = true)
    (hn : n + 1 ≤ 1000000000000) (hbytes : bytes ≤ 100)
    (h : ∀ g off c' w', OwnA w' e (some ⟨g, off, none⟩) (n + 1) c' (xs ++ [u]) [g] → (g ∈ fp ∨ w.heap.size = g) → g < w'.heap.size → Keep fp w w' → K (a.put o.dst (.slice (some ⟨g, off, none⟩) (n + 1) c')) w') :
    if Region.wanted o (yielded ops a.tmps) = true then Oper.wp P o a w K Q else E := by
  have hw : Region.wanted o (yielded ops a.tmps) = true := by simp [Region.wanted, hgd]
  rw [if_pos hw]
  exact wp_append_A s x t ho i z bytes ht hi hz hsize hby hzs hs ad hx u hown hu h1 hn hbytes h
end

end Go.Proofs.Ytfmhlnfcbbpfeaa
