/- append of a whole slice onto a slice of the call's own (one-cell elements), in place or not. No program is named here. -/
import Derived.Test.YthmldeningpjbaaPFp0
import Derived.Laws.MakeOwn
set_option linter.unusedVariables false
set_option linter.unusedSimpArgs false
namespace Go.Proofs.Ythmldeningpjbaa
open Go Go.RowKit

section
variable {w : World} {e : TypeId} {A B : Option Addr} {n c m d : Nat} {xs ys : List Value} {fp : List Nat} {P : Program}

theorem setCells_heap (g : Nat) {t : TypeId} : ∀ (ys : List Value) (o : Nat) (w : World) (cur : Array Value), w.heap[g]? = some (.cells cur t (0, 0)) →
    ∃ cur', (w.setCells g o ys).heap[g]? = some (.cells cur' t (0, 0)) ∧ cur'.size = cur.size ∧ (∀ j u, ys[j]? = some u → o + j < cur.size → cur'[o + j]? = some u) ∧ (∀ i, i < o → cur'[i]? = cur[i]?)
  | [], o, w, cur, h => ⟨cur, h, rfl, by simp, fun _ _ => rfl⟩
  | y :: ys, o, w, cur, h => by
    obtain ⟨cur', h1, h2, h3, h4⟩ := setCells_heap g ys (o + 1) (w.setCell ⟨g, o, none⟩ y) (cur.setIfInBounds o y) (heap_set h o y)
    refine ⟨cur', h1, by simpa using h2, fun j u hu hlt => ?_, fun i hi => ?_⟩
    · cases j with
      | zero =>
        simp only [List.getElem?_cons_zero, Option.some.injEq] at hu
        subst hu
        rw [Nat.add_zero, h4 o (by omega)]
        simp at hlt
        simp [hlt]
      | succ j =>
        have := h3 j u (by simpa using hu) (by simp; omega)
        rwa [show o + 1 + j = o + (j + 1) from by omega] at this
    · rw [h4 i (by omega), Array.getElem?_setIfInBounds_ne (by omega)]

theorem setCells_keep {S : List Nat} (g : Nat) : ∀ (ys : List Value) (o : Nat) (w0 w : World), Keep S w0 w → (g ∈ S ∨ w0.heap.size ≤ g) → Keep S w0 (w.setCells g o ys)
  | [], _, _, _, h, _ => h
  | y :: ys, o, w0, _, h, hg => setCells_keep g ys (o + 1) w0 _ (h.setCell (p := ⟨g, o, none⟩) hg y) hg

theorem Rd.add_ {A : Option Addr} {n : Nat} {xs : List Value} (h : Rd w 1 A n xs) {ad : Addr} (he : A = some ad) : ∀ j u, xs[j]? = some u → w.cell? (ad.add j) = some u := by
  intro j u hu
  have hl : 0 < n := by
    have := (List.getElem?_eq_some_iff.1 hu).1
    have := h.1
    omega
  obtain ⟨b, off, e1, _, hc⟩ := h.2 hl
  rw [he] at e1
  injection e1 with e1
  subst e1
  have := hc j u hu
  by_cases hj : j = 0
  · subst hj; simpa [Addr.add] using this
  · simpa [Addr.add, hj] using this

theorem run_append_As (t ty : TypeId) (i : TypeInfo) (z : Value) (bytes : Nat) (ht : P.underlying t = some (.slice e)) (hi : P.info? e = some i) (hz : i.zero = some z)
    (hsize : i.size = 1) (hby : i.bytes = bytes) (hzs : z.cells.size = 1) (hown : OwnA w e A n c xs fp) (hr : Rd w 1 B m ys) (h1 : ∀ u ∈ ys, u.oneCell' = true)
    (hn : n + m ≤ 1000000000000) (hbytes : bytes ≤ 100) :
    ∃ A' c' w' fp', (Builtin.append_ #[t, t] ty #[.slice A n c, .slice B m d]).run P w = .ok (.slice A' (n + m) c') w' ∧
      OwnA w' e A' (n + m) c' (xs ++ ys) fp' ∧ (∀ g ∈ fp', g ∈ fp ∨ w.heap.size = g) ∧ Keep fp w w' := by
  subst hby
  have hym : ys.length = m := by have := hr.1; omega
  rcases Nat.eq_zero_or_pos m with hm | hm
  · -- nothing is appended
    subst hm
    obtain rfl : ys = [] := List.eq_nil_of_length_eq_zero hym
    refine ⟨A, c, w, fp, ?_, by simpa using hown, fun g hg => .inl hg, Keep.refl _ _⟩
    have hge := hown.ge
    have hfc : (Builtin.firstCells i.size 0 (.slice B 0 d)).run P w = .ok #[] w := by
      cases B with
      | none => simp [Builtin.firstCells]
      | some b => simp [Builtin.firstCells, loadCells, loadCellsFrom]
    cases A with
    | none => simp [Builtin.append_, run_underlying ht, sizeOf, typeInfo, hi, Builtin.lenOf, hge, hfc]
    | some a => simp [Builtin.append_, run_underlying ht, sizeOf, typeInfo, hi, Builtin.lenOf, hge, hfc, storeCells]
  · obtain ⟨b, off, rfl, hb, hc⟩ := hr.2 hm
    have hb1 : (n + m) * i.bytes ≤ 140737488355328 := Nat.le_trans (Nat.mul_le_mul hn hbytes) (by decide)
    have hnews := hr.add_ rfl
    have hl : ys.length = m * i.size := by rw [hsize, hym, Nat.mul_one]
    have hmx : n + m ≤ maxLen := by simp only [maxLen]; omega
    have grown : ∀ (old : Nat) (olds : List Value), olds = xs →
        OwnA (w.drew.alloc (.cells (olds.toArray ++ ys.toArray ++ Builtin.zeroCells z.cells (grownCap w (n + m) old e - (n + m))) e)) e (some ⟨w.heap.size, 0, none⟩) (n + m) (grownCap w (n + m) old e) (xs ++ ys) [w.heap.size] := by
      rintro old olds rfl
      have hge := grownCap_ge w (n + m) old e
      have hcm : grownCap w (n + m) old e ≤ maxLen := grownCap_le_maxLen w (n + m) old e hmx
      simp only [maxLen] at hcm
      refine ⟨by simp [hown.1, hym], .inr ⟨_, 0, _, rfl, rfl, heap_alloc_new w.drew _, hge, hcm, ?_, ?_⟩⟩
      · simp only [Array.size_append, List.size_toArray, size_zeroCells, hzs, hown.1, hym]
        omega
      · intro j v hv
        have hlt : j < (olds ++ ys).length := (List.getElem?_eq_some_iff.1 hv).1
        rw [Nat.zero_add, Array.getElem?_append_left (by simpa using hlt)]
        simpa using hv
    have hkeep : ∀ o : Obj, Keep fp w (w.drew.alloc o) := fun o => ((Keep.refl fp w).drew).alloc o
    rcases hown.2 with ⟨rfl, rfl, rfl, rfl⟩ | ⟨g, og, cur, rfl, rfl, hh, hnc, hcm, hcs, hat⟩
    · have hx : xs = [] := List.eq_nil_of_length_eq_zero hown.1
      subst hx
      have hrn := run_append_nil (P := P) w t ty e i z ht hi hz ⟨b, off, none⟩ m d ys hl hnews hm (by omega) (by simp at hb1; omega)
      have hg := grown 0 [] rfl
      simp only [Nat.zero_add, List.nil_append, Array.empty_append] at hg ⊢
      exact ⟨_, _, _, _, hrn, hg, fun y hy => .inr (List.mem_singleton.1 hy).symm, hkeep _⟩
    · by_cases hroom : n + m ≤ c
      · have hrn := run_append_room_cells (P := P) w t ty e i ht hi g og n c ⟨b, off, none⟩ m d ys hl hnews h1 hroom (by
          intro j hj
          rw [hym] at hj
          have hlt : og + n * i.size + j < cur.size := by rw [hsize]; omega
          rw [cell_of_heap hh, Array.getElem?_eq_getElem hlt]
          rfl) (fun j hj => frozen_of_heap hh _)
        rw [hsize, Nat.mul_one] at hrn
        obtain ⟨cur', g1, g2, g3, g4⟩ := setCells_heap g ys (og + n) w cur hh
        refine ⟨some ⟨g, og, none⟩, c, _, [g], hrn, ⟨by simp [hown.1, hym], .inr ⟨g, og, cur', rfl, rfl, g1, hroom, hcm, by rw [g2]; exact hcs, ?_⟩⟩, fun y hy => .inl hy, setCells_keep g ys _ w w (Keep.refl _ _) (.inl (by simp))⟩
        intro j v hv
        rw [List.getElem?_append] at hv
        split at hv
        · rename_i hj
          rw [g4 (og + j) (by have := hown.1; omega)]
          exact hat j v hv
        · rename_i hj
          have h5 := hown.1
          have h6 := (List.getElem?_eq_some_iff.1 hv).1
          have := g3 (j - xs.length) v hv (by omega)
          rwa [show og + n + (j - xs.length) = og + j from by omega] at this
      · have holds : ∀ j v, xs[j]? = some v → w.cell? ((⟨g, og, none⟩ : Addr).add j) = some v := by
          intro j v hv
          rw [show (⟨g, og, none⟩ : Addr).add j = ⟨g, og + j, none⟩ from by simp [Addr.add]]
          exact (cell_of_heap hh _).trans (hat j v hv)
        have hrn := run_append_grow (P := P) w t ty e i z ht hi hz ⟨g, og, none⟩ n c xs (by simp [hown.1, hsize]) holds ⟨b, off, none⟩ m d ys hl hnews (by omega) (by omega) (growslice_fits (by omega) hb1)
        exact ⟨_, _, _, _, hrn, grown c xs rfl, fun y hy => .inr (List.mem_singleton.1 hy).symm, hkeep _⟩

theorem wp_append_As {o : Oper} {a : Act} {K : Act → World → Prop} {Q : Exit → Act → World → Prop} (s x : Operand) (t : TypeId)
    (ho : o.op = .call { callee := .builtin .append, args := #[s, x], argTypes := #[t, t] })
    (i : TypeInfo) (z : Value) (bytes : Nat) (ht : P.underlying t = some (.slice e)) (hi : P.info? e = some i) (hz : i.zero = some z)
    (hsize : i.size = 1) (hby : i.bytes = bytes) (hzs : z.cells.size = 1) (hs : a.eval s = .slice A n c) (hx : a.eval x = .slice B m d)
    (hown : OwnA w e A n c xs fp) (hr : Rd w 1 B m ys) (h1 : ∀ u ∈ ys, u.oneCell' = true)
    (hn : n + m ≤ 1000000000000) (hbytes : bytes ≤ 100)
    (h : ∀ A' c' w' fp', OwnA w' e A' (n + m) c' (xs ++ ys) fp' → (∀ g ∈ fp', g ∈ fp ∨ w.heap.size = g) → Keep fp w w' → K (a.put o.dst (.slice A' (n + m) c')) w') : o.wp P a w K Q := by
  obtain ⟨A', c', w', fp', hrn, h2, h3, h4⟩ := run_append_As (P := P) (d := d) t o.type i z bytes ht hi hz hsize hby hzs hown hr h1 hn hbytes
  unfold Oper.wp execOp
  simp only [ho, resolve, invoke, builtin, Sem.run_bind, Sem.run_pure, Result.andThen_ok, List.map_toArray, List.map_cons, List.map_nil, hs, hx, hrn]
  exact h A' c' w' fp' h2 h3 h4

theorem wpList_append_As {ops : Array Oper} {rest : List Oper} {o : Oper} {a : Act} {Q : Exit → Act → World → Prop} (hgd : o.guard = none) (s x : Operand) (t : TypeId)
    (ho : o.op = .call { callee := .builtin .append, args := #[s, x], argTypes := #[t, t] })
    (i : TypeInfo) (z : Value) (bytes : Nat) (ht : P.underlying t = some (.slice e)) (hi : P.info? e = some i) (hz : i.zero = some z)
    (hsize : i.size = 1) (hby : i.bytes = bytes) (hzs : z.cells.size = 1) (hs : a.eval s = .slice A n c) (hx : a.eval x = .slice B m d)
    (hown : OwnA w e A n c xs fp) (hr : Rd w 1 B m ys) (h1 : ∀ u ∈ ys, u.oneCell' = true)
    (hn : n + m ≤ 1000000000000) (hbytes : bytes ≤ 100)
    (h : ∀ A' c' w' fp', OwnA w' e A' (n + m) c' (xs ++ ys) fp' → (∀ g ∈ fp', g ∈ fp ∨ w.heap.size = g) → Keep fp w w' → wpList P ops Q rest (a.put o.dst (.slice A' (n + m) c')) w') : wpList P ops Q (o :: rest) a w :=
  wpList_plain hgd fun _ hK => wp_append_As s x t ho i z bytes ht hi hz hsize hby hzs hs hx hown hr h1 hn hbytes fun A' c' w' fp' h2 h3 h4 => hK _ _ (h A' c' w' fp' h2 h3 h4)


/-- a block of n noughts -/
def noughts (n : Nat) : Array Value := (List.replicate n (Value.int .i64 0)).toArray

theorem run_make_ints (t : TypeId) (i : TypeInfo) (ht : P.underlying t = some (.slice e)) (hi : P.info? e = some i) (hz : i.zero = some (.int .i64 0)) (hsize : i.size = 1) (hby : i.bytes = 8) (n : Nat) (hn : n ≤ 1000000) (w : World) :
    (Instr.makeSlice t (.int .i64 (n : Int)) (.int .i64 (n : Int))).run P w = .ok (.slice (some ⟨w.heap.size, 0, none⟩) n n) (w.alloc (.cells (noughts n) e)) := by
  have hr := run_make (P := P) w t e i (.int .i64 0) ht hi hz .i64 .i64 n n (by omega) (Int.le_refl _) (by rw [hby]; omega) (by omega)
  simp only [Int.toNat_natCast, hsize, Nat.mul_one] at hr
  rw [hr]
  congr 3
  apply Array.ext'
  rw [show (Value.int IntKind.i64 0).cells = #[Value.int .i64 0] from rfl, toList_madeCells_one]
  simp [noughts]

theorem OwnA.made (w : World) (e : TypeId) (n : Nat) (hn : n ≤ 1000000) : OwnA (w.alloc (.cells (noughts n) e)) e (some ⟨w.heap.size, 0, none⟩) n n (List.replicate n (.int .i64 0)) [w.heap.size] :=
  ⟨by simp, .inr ⟨w.heap.size, 0, noughts n, rfl, rfl, heap_alloc_new w _, Nat.le_refl _, by omega, by simp [noughts], fun j u hu => by rw [Nat.zero_add, noughts, List.getElem?_toArray]; exact hu⟩⟩
end
end Go.Proofs.Ythmldeningpjbaa
