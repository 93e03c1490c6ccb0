/- append of a whole slice onto a slice of the call's own (one-cell elements), in place or not. No program is named here. -/
import Derived.Test.YthmldeningpjbaaPCp3
import Derived.Laws.MakeOwn
import Derived.Test.YthmldeningpjbaaPCp2
import Derived.Laws.StructEq
set_option linter.unusedVariables false
set_option linter.unusedSimpArgs false
namespace Go.Proofs.Ythmldeningpjbaa
open Go Go.RowKit

section
variable {w : World} {e : TypeId} {A B : Option Addr} {n c m d : Nat} {xs ys : List Value} {fp : List Nat} {P : Program}

theorem setCells_heap (g : Nat) {t : TypeId} : ∀ (ys : List Value) (o : Nat) (w : World) (cur : Array Value), w.heap[g]? = some (.cells cur t (0, 0)) →
    ∃ cur', (w.setCells g o ys).heap[g]? = some (.cells cur' t (0, 0)) ∧ cur'.size = cur.size ∧ (∀ j u, ys[j]? = some u → o + j < cur.size → cur'[o + j]? = some u) ∧ (∀ i, i < o → cur'[i]? = cur[i]?)
  | [], o, w, cur, h => ⟨cur, h, rfl, by simp, fun _ _ => rfl⟩
  | y :: ys, o, w, cur, h => by
    obtain ⟨cur', h1, h2, h3, h4⟩ := setCells_heap g ys (o + 1) (w.setCell ⟨g, o, none⟩ y) (cur.setIfInBounds o y) (heap_set h o y)
    refine ⟨cur', h1, by simpa using h2, fun j u hu hlt => ?_, fun i hi => ?_⟩
    · cases j with
      | zero =>
        simp only [List.getElem?_cons_zero, Option.some.injEq] at hu
        subst hu
        rw [Nat.add_zero, h4 o (by omega)]
        simp at hlt
        simp [hlt]
      | succ j =>
        have := h3 j u (by simpa using hu) (by simp; omega)
        rwa [show o + 1 + j = o + (j + 1) from by omega] at this
    · rw [h4 i (by omega), Array.getElem?_setIfInBounds_ne (by omega)]

theorem setCells_keep {S : List Nat} (g : Nat) : ∀ (ys : List Value) (o : Nat) (w0 w : World), Keep S w0 w → (g ∈ S ∨ w0.heap.size ≤ g) → Keep S w0 (w.setCells g o ys)
  | [], _, _, _, h, _ => h
  | y :: ys, o, w0, _, h, hg => setCells_keep g ys (o + 1) w0 _ (h.setCell (p := ⟨g, o, none⟩) hg y) hg

theorem Rd.add_ {A : Option Addr} {n : Nat} {xs : List Value} (h : Rd w 1 A n xs) {ad : Addr} (he : A = some ad) : ∀ j u, xs[j]? = some u → w.cell? (ad.add j) = some u := by
  intro j u hu
  have hl : 0 < n := by
    have := (List.getElem?_eq_some_iff.1 hu).1
    have := h.1
    omega
  obtain ⟨b, off, e1, _, hc⟩ := h.2 hl
  rw [he] at e1
  injection e1 with e1
  subst e1
  have := hc j u hu
  by_cases hj : j = 0
  · subst hj; simpa [Addr.add] using this
  · simpa [Addr.add, hj] using this

theorem run_append_As (t ty : TypeId) (i : TypeInfo) (z : Value) (bytes : Nat) (ht : P.underlying t = some (.slice e)) (hi : P.info? e = some i) (hz : i.zero = some z)
    (hsize : i.size = 1) (hby : i.bytes = bytes) (hzs : z.cells.size = 1) (hown : OwnA w e A n c xs fp) (hr : Rd w 1 B m ys) (h1 : ∀ u ∈ ys, u.oneCell' = true)
    (hn : n + m ≤ 1000000000000) (hbytes : bytes ≤ 100) :
    ∃ A' c' w' fp', (Builtin.append_ #[t, t] ty #[.slice A n c, .slice B m d]).run P w = .ok (.slice A' (n + m) c') w' ∧
      OwnA w' e A' (n + m) c' (xs ++ ys) fp' ∧ (∀ g ∈ fp', g ∈ fp ∨ w.heap.size = g) ∧ Keep fp w w' := by
  subst hby
  have hym : ys.length = m := by have := hr.1; omega
  rcases Nat.eq_zero_or_pos m with hm | hm
  · -- nothing is appended
    subst hm
    obtain rfl : ys = [] := List.eq_nil_of_length_eq_zero hym
    refine ⟨A, c, w, fp, ?_, by simpa using hown, fun g hg => .inl hg, Keep.refl _ _⟩
    have hge := hown.ge
    have hfc : (Builtin.firstCells i.size 0 (.slice B 0 d)).run P w = .ok #[] w := by
      cases B with
      | none => simp [Builtin.firstCells]
      | some b => simp [Builtin.firstCells, loadCells, loadCellsFrom]
    cases A with
    | none => simp [Builtin.append_, run_underlying ht, sizeOf, typeInfo, hi, Builtin.lenOf, hge, hfc]
    | some a => simp [Builtin.append_, run_underlying ht, sizeOf, typeInfo, hi, Builtin.lenOf, hge, hfc, storeCells]
  · obtain ⟨b, off, rfl, hb, hc⟩ := hr.2 hm
    have hb1 : (n + m) * i.bytes ≤ 140737488355328 := Nat.le_trans (Nat.mul_le_mul hn hbytes) (by decide)
    have hnews := hr.add_ rfl
    have hl : ys.length = m * i.size := by rw [hsize, hym, Nat.mul_one]
    have hmx : n + m ≤ maxLen := by simp only [maxLen]; omega
    have grown : ∀ (old : Nat) (olds : List Value), olds = xs →
        OwnA (w.drew.alloc (.cells (olds.toArray ++ ys.toArray ++ Builtin.zeroCells z.cells (grownCap w (n + m) old e - (n + m))) e)) e (some ⟨w.heap.size, 0, none⟩) (n + m) (grownCap w (n + m) old e) (xs ++ ys) [w.heap.size] := by
      rintro old olds rfl
      have hge := grownCap_ge w (n + m) old e
      have hcm : grownCap w (n + m) old e ≤ maxLen := grownCap_le_maxLen w (n + m) old e hmx
      simp only [maxLen] at hcm
      refine ⟨by simp [hown.1, hym], .inr ⟨_, 0, _, rfl, rfl, heap_alloc_new w.drew _, hge, hcm, ?_, ?_⟩⟩
      · simp only [Array.size_append, List.size_toArray, size_zeroCells, hzs, hown.1, hym]
        omega
      · intro j v hv
        have hlt : j < (olds ++ ys).length := (List.getElem?_eq_some_iff.1 hv).1
        rw [Nat.zero_add, Array.getElem?_append_left (by simpa using hlt)]
        simpa using hv
    have hkeep : ∀ o : Obj, Keep fp w (w.drew.alloc o) := fun o => ((Keep.refl fp w).drew).alloc o
    rcases hown.2 with ⟨rfl, rfl, rfl, rfl⟩ | ⟨g, og, cur, rfl, rfl, hh, hnc, hcm, hcs, hat⟩
    · have hx : xs = [] := List.eq_nil_of_length_eq_zero hown.1
      subst hx
      have hrn := run_append_nil (P := P) w t ty e i z ht hi hz ⟨b, off, none⟩ m d ys hl hnews hm (by omega) (by simp at hb1; omega)
      have hg := grown 0 [] rfl
      simp only [Nat.zero_add, List.nil_append, Array.empty_append] at hg ⊢
      exact ⟨_, _, _, _, hrn, hg, fun y hy => .inr (List.mem_singleton.1 hy).symm, hkeep _⟩
    · by_cases hroom : n + m ≤ c
      · have hrn := run_append_room_cells (P := P) w t ty e i ht hi g og n c ⟨b, off, none⟩ m d ys hl hnews h1 hroom (by
          intro j hj
          rw [hym] at hj
          have hlt : og + n * i.size + j < cur.size := by rw [hsize]; omega
          rw [cell_of_heap hh, Array.getElem?_eq_getElem hlt]
          rfl) (fun j hj => frozen_of_heap hh _)
        rw [hsize, Nat.mul_one] at hrn
        obtain ⟨cur', g1, g2, g3, g4⟩ := setCells_heap g ys (og + n) w cur hh
        refine ⟨some ⟨g, og, none⟩, c, _, [g], hrn, ⟨by simp [hown.1, hym], .inr ⟨g, og, cur', rfl, rfl, g1, hroom, hcm, by rw [g2]; exact hcs, ?_⟩⟩, fun y hy => .inl hy, setCells_keep g ys _ w w (Keep.refl _ _) (.inl (by simp))⟩
        intro j v hv
        rw [List.getElem?_append] at hv
        split at hv
        · rename_i hj
          rw [g4 (og + j) (by have := hown.1; omega)]
          exact hat j v hv
        · rename_i hj
          have h5 := hown.1
          have h6 := (List.getElem?_eq_some_iff.1 hv).1
          have := g3 (j - xs.length) v hv (by omega)
          rwa [show og + n + (j - xs.length) = og + j from by omega] at this
      · have holds : ∀ j v, xs[j]? = some v → w.cell? ((⟨g, og, none⟩ : Addr).add j) = some v := by
          intro j v hv
          rw [show (⟨g, og, none⟩ : Addr).add j = ⟨g, og + j, none⟩ from by simp [Addr.add]]
          exact (cell_of_heap hh _).trans (hat j v hv)
        have hrn := run_append_grow (P := P) w t ty e i z ht hi hz ⟨g, og, none⟩ n c xs (by simp [hown.1, hsize]) holds ⟨b, off, none⟩ m d ys hl hnews (by omega) (by omega) (growslice_fits (by omega) hb1)
        exact ⟨_, _, _, _, hrn, grown c xs rfl, fun y hy => .inr (List.mem_singleton.1 hy).symm, hkeep _⟩

theorem wp_append_As {o : Oper} {a : Act} {K : Act → World → Prop} {Q : Exit → Act → World → Prop} (s x : Operand) (t : TypeId)
    (ho : o.op = .call { callee := .builtin .append, args := #[s, x], argTypes := #[t, t] })
    (i : TypeInfo) (z : Value) (bytes : Nat) (ht : P.underlying t = some (.slice e)) (hi : P.info? e = some i) (hz : i.zero = some z)
    (hsize : i.size = 1) (hby : i.bytes = bytes) (hzs : z.cells.size = 1) (hs : a.eval s = .slice A n c) (hx : a.eval x = .slice B m d)
    (hown : OwnA w e A n c xs fp) (hr : Rd w 1 B m ys) (h1 : ∀ u ∈ ys, u.oneCell' = true)
    (hn : n + m ≤ 1000000000000) (hbytes : bytes ≤ 100)
    (h : ∀ A' c' w' fp', OwnA w' e A' (n + m) c' (xs ++ ys) fp' → (∀ g ∈ fp', g ∈ fp ∨ w.heap.size = g) → Keep fp w w' → K (a.put o.dst (.slice A' (n + m) c')) w') : o.wp P a w K Q := by
  obtain ⟨A', c', w', fp', hrn, h2, h3, h4⟩ := run_append_As (P := P) (d := d) t o.type i z bytes ht hi hz hsize hby hzs hown hr h1 hn hbytes
  unfold Oper.wp execOp
  simp only [ho, resolve, invoke, builtin, Sem.run_bind, Sem.run_pure, Result.andThen_ok, List.map_toArray, List.map_cons, List.map_nil, hs, hx, hrn]
  exact h A' c' w' fp' h2 h3 h4

theorem wpList_append_As {ops : Array Oper} {rest : List Oper} {o : Oper} {a : Act} {Q : Exit → Act → World → Prop} (hgd : o.guard = none) (s x : Operand) (t : TypeId)
    (ho : o.op = .call { callee := .builtin .append, args := #[s, x], argTypes := #[t, t] })
    (i : TypeInfo) (z : Value) (bytes : Nat) (ht : P.underlying t = some (.slice e)) (hi : P.info? e = some i) (hz : i.zero = some z)
    (hsize : i.size = 1) (hby : i.bytes = bytes) (hzs : z.cells.size = 1) (hs : a.eval s = .slice A n c) (hx : a.eval x = .slice B m d)
    (hown : OwnA w e A n c xs fp) (hr : Rd w 1 B m ys) (h1 : ∀ u ∈ ys, u.oneCell' = true)
    (hn : n + m ≤ 1000000000000) (hbytes : bytes ≤ 100)
    (h : ∀ A' c' w' fp', OwnA w' e A' (n + m) c' (xs ++ ys) fp' → (∀ g ∈ fp', g ∈ fp ∨ w.heap.size = g) → Keep fp w w' → wpList P ops Q rest (a.put o.dst (.slice A' (n + m) c')) w') : wpList P ops Q (o :: rest) a w :=
  wpList_plain hgd fun _ hK => wp_append_As s x t ho i z bytes ht hi hz hsize hby hzs hs hx hown hr h1 hn hbytes fun A' c' w' fp' h2 h3 h4 => hK _ _ (h A' c' w' fp' h2 h3 h4)

theorem step_append_As {ops : Array Oper} {o : Oper} {a : Act} {K : Act → World → Prop} {Q : Exit → Act → World → Prop} {E : Prop} (hgd : o.guard = none) (s x : Operand) (t : TypeId)
    (ho : o.op = .call { callee := .builtin .append, args := #[s, x], argTypes := #[t, t] })
    (i : TypeInfo) (z : Value) (bytes : Nat) (ht : P.underlying t = some (.slice e)) (hi : P.info? e = some i) (hz : i.zero = some z)
    (hsize : i.size = 1) (hby : i.bytes = bytes) (hzs : z.cells.size = 1) (hs : a.eval s = .slice A n c) (hx : a.eval x = .slice B m d)
    (hown : OwnA w e A n c xs fp) (hr : Rd w 1 B m ys) (h1 : ∀ u ∈ ys, u.oneCell' = true)
    (hn : n + m ≤ 1000000000000) (hbytes : bytes ≤ 100)
    (h : ∀ A' c' w' fp', OwnA w' e A' (n + m) c' (xs ++ ys) fp' → (∀ g ∈ fp', g ∈ fp ∨ w.heap.size = g) → Keep fp w w' → K (a.put o.dst (.slice A' (n + m) c')) w') :
    if Region.wanted o (yielded ops a.tmps) = true then Oper.wp P o a w K Q else E := by
  have hw : Region.wanted o (yielded ops a.tmps) = true := by simp [Region.wanted, hgd]
  rw [if_pos hw]
  exact wp_append_As s x t ho i z bytes ht hi hz hsize hby hzs hs hx hown hr h1 hn hbytes h

/-- a block of n noughts -/
def noughts (n : Nat) : Array Value := (List.replicate n (Value.int .i64 0)).toArray

theorem run_make_ints (t : TypeId) (i : TypeInfo) (ht : P.underlying t = some (.slice e)) (hi : P.info? e = some i) (hz : i.zero = some (.int .i64 0)) (hsize : i.size = 1) (hby : i.bytes = 8) (n : Nat) (hn : n ≤ 1000000) (w : World) :
    (Instr.makeSlice t (.int .i64 (n : Int)) (.int .i64 (n : Int))).run P w = .ok (.slice (some ⟨w.heap.size, 0, none⟩) n n) (w.alloc (.cells (noughts n) e)) := by
  have hr := run_make (P := P) w t e i (.int .i64 0) ht hi hz .i64 .i64 n n (by omega) (Int.le_refl _) (by rw [hby]; omega) (by omega)
  simp only [Int.toNat_natCast, hsize, Nat.mul_one] at hr
  rw [hr]
  congr 3
  apply Array.ext'
  rw [show (Value.int IntKind.i64 0).cells = #[Value.int .i64 0] from rfl, toList_madeCells_one]
  simp [noughts]

theorem OwnA.made (w : World) (e : TypeId) (n : Nat) (hn : n ≤ 1000000) : OwnA (w.alloc (.cells (noughts n) e)) e (some ⟨w.heap.size, 0, none⟩) n n (List.replicate n (.int .i64 0)) [w.heap.size] :=
  ⟨by simp, .inr ⟨w.heap.size, 0, noughts n, rfl, rfl, heap_alloc_new w _, Nat.le_refl _, by omega, by simp [noughts], fun j u hu => by rw [Nat.zero_add, noughts, List.getElem?_toArray]; exact hu⟩⟩
end
end Go.Proofs.Ythmldeningpjbaa
/- slices of the call's own whose elements have several cells; append of one element. No program is named here. -/
namespace Go.Proofs.Ythmldeningpjbaa
open Go Go.RowKit

/-- A slice value (A, n, c) of elements of size cells, nil or in a block of its own. -/
def OwnS (w : World) (e : TypeId) (size : Nat) (A : Option Addr) (n c : Nat) (xs : List Value) (fp : List Nat) : Prop :=
  xs.length = n * size ∧ ((A = none ∧ n = 0 ∧ c = 0 ∧ fp = []) ∨
    ∃ (g : Nat) (cur : Array Value), A = some ⟨g, 0, none⟩ ∧ fp = [g] ∧ w.heap[g]? = some (.cells cur e (0, 0)) ∧ n ≤ c ∧ c ≤ 9223372036854775807 ∧ c * size = cur.size ∧ ∀ (j : Nat) (u : Value), xs[j]? = some u → cur[j]? = some u)

section
variable {w w' : World} {e : TypeId} {size : Nat} {A : Option Addr} {n c : Nat} {xs ys : List Value} {fp : List Nat} {P : Program}
theorem OwnS.nil (w : World) (e : TypeId) (size : Nat) : OwnS w e size none 0 0 [] [] := ⟨by simp, .inl ⟨rfl, rfl, rfl, rfl⟩⟩
theorem OwnS.lt (h : OwnS w e size A n c xs fp) : ∀ g ∈ fp, g < w.heap.size := by
  intro g hg
  rcases h.2 with ⟨_, _, _, rfl⟩ | ⟨g', cur, rfl, rfl, hh, _⟩
  · simp at hg
  · obtain rfl : g = g' := by simpa using hg
    exact heap_lt hh
theorem OwnS.ge (h : OwnS w e size A n c xs fp) : n ≤ c := by
  rcases h.2 with ⟨_, rfl, rfl, _⟩ | ⟨g', cur, rfl, rfl, hh, h1, _⟩ <;> omega
theorem OwnS.cap (h : OwnS w e size A n c xs fp) : c ≤ 9223372036854775807 := by
  rcases h.2 with ⟨_, _, rfl, _⟩ | ⟨g, cur, _, _, _, _, h, _⟩
  · omega
  · exact h
theorem OwnS.keepS {S : List Nat} (h : OwnS w e size A n c xs fp) (hk : Keep S w w') (hd : ∀ g ∈ fp, g ∉ S) : OwnS w' e size A n c xs fp := by
  refine ⟨h.1, ?_⟩
  rcases h.2 with h0 | ⟨g, cur, rfl, rfl, hh, r⟩
  · exact .inl h0
  · exact .inr ⟨g, cur, rfl, rfl, (hk.block g (heap_lt hh) (hd g (by simp))).trans hh, r⟩
theorem OwnS.alloc (h : OwnS w e size A n c xs fp) (o : Obj) : OwnS (w.alloc o) e size A n c xs fp := h.keepS ((Keep.refl [] w).alloc o) (by simp)
theorem OwnS.drewN (h : OwnS w e size A n c xs fp) (k : Nat) : OwnS (w.drewN k) e size A n c xs fp := h
theorem OwnS.setCell {p : Addr} (h : OwnS w e size A n c xs fp) (hp : p.block ∉ fp) (u : Value) : OwnS (w.setCell p u) e size A n c xs fp :=
  h.keepS ((Keep.refl [p.block] w).setCell (.inl (by simp)) u) (by simp; rintro g hg rfl; exact hp hg)
theorem OwnS.some_ (h : OwnS w e size A n c xs fp) (hn : 0 < n) : ∃ g, A = some ⟨g, 0, none⟩ ∧ fp = [g] ∧ g < w.heap.size ∧ (∀ j u, xs[j]? = some u → w.cell? ⟨g, j, none⟩ = some u) ∧ (∀ j, w.frozen? ⟨g, j, none⟩ = false) := by
  rcases h.2 with ⟨_, h0, _⟩ | ⟨g, cur, rfl, rfl, hh, h1, h2, h3, h4⟩
  · omega
  · exact ⟨g, rfl, rfl, heap_lt hh, fun j u hu => (cell_of_heap hh _).trans (h4 j u hu), fun j => frozen_of_heap hh j⟩
theorem OwnS.rd (h : OwnS w e size A n c xs fp) : Rd w size A n xs := by
  refine ⟨h.1, fun hn => ?_⟩
  obtain ⟨g, e, _, hl, hc, _⟩ := h.some_ hn
  exact ⟨g, 0, e, hl, fun j u hu => by rw [Nat.zero_add]; exact hc j u hu⟩
theorem OwnS.set_ {g : Nat} (h : OwnS w e size (some ⟨g, 0, none⟩) n c xs fp) (k : Nat) (u : Value) : OwnS (w.setCell ⟨g, k, none⟩ u) e size (some ⟨g, 0, none⟩) n c (xs.set k u) fp := by
  refine ⟨by rw [List.length_set, h.1], .inr ?_⟩
  rcases h.2 with ⟨h0, _⟩ | ⟨g', cur, he, rfl, hh, h1, h2, h3, h4⟩
  · cases h0
  · injection he with he
    injection he with e1 _ _
    subst e1
    refine ⟨g, cur.setIfInBounds k u, rfl, rfl, heap_set hh _ _, h1, h2, by simpa using h3, fun j v hv => ?_⟩
    rw [List.getElem?_set] at hv
    by_cases hjk : k = j
    · subst hjk
      rw [if_pos rfl] at hv
      split at hv
      · rename_i hk
        injection hv with e1
        subst e1
        have := (List.getElem?_eq_some_iff.1 (List.getElem?_eq_getElem hk)).1
        have hc := h4 k _ (List.getElem?_eq_getElem hk)
        have hcl := (Array.getElem?_eq_some_iff.1 hc).1
        rw [Array.getElem?_setIfInBounds_self_of_lt hcl]
      · cases hv
    · rw [if_neg hjk] at hv
      rw [Array.getElem?_setIfInBounds_ne (by omega)]
      exact h4 j v hv

theorem run_append_S (t ty : TypeId) (i : TypeInfo) (z : Value) (bytes : Nat) (ht : P.underlying t = some (.slice e)) (hi : P.info? e = some i) (hz : i.zero = some z)
    (hsize : i.size = size) (hs0 : 0 < size) (hby : i.bytes = bytes) (hzs : z.cells.size = size) (hown : OwnS w e size A n c xs fp) (ad : Addr) (hys : ys.length = size) (hu : ∀ j v, ys[j]? = some v → w.cell? (ad.add j) = some v) (h1 : ∀ u ∈ ys, u.oneCell' = true)
    (hn : n + 1 ≤ 1000000000000) (hbytes : bytes ≤ 100) :
    ∃ g c' w', (Builtin.append_ #[t, t] ty #[.slice A n c, .slice (some ad) 1 1]).run P w = .ok (.slice (some ⟨g, 0, none⟩) (n + 1) c') w' ∧
      OwnS w' e size (some ⟨g, 0, none⟩) (n + 1) c' (xs ++ ys) [g] ∧ (g ∈ fp ∨ w.heap.size = g) ∧ g < w'.heap.size ∧ Keep fp w w' := by
  subst hby hsize
  have hb1 : (n + 1) * i.bytes ≤ 140737488355328 := Nat.le_trans (Nat.mul_le_mul hn hbytes) (by decide)
  have hl : ys.length = 1 * i.size := by omega
  have hmx : n + 1 ≤ maxLen := by simp only [maxLen]; omega
  have hxl := hown.1
  have grown : ∀ (old : Nat) (olds : List Value), olds = xs →
      OwnS (w.drew.alloc (.cells (olds.toArray ++ ys.toArray ++ Builtin.zeroCells z.cells (grownCap w (n + 1) old e - (n + 1))) e)) e i.size (some ⟨w.heap.size, 0, none⟩) (n + 1) (grownCap w (n + 1) old e) (xs ++ ys) [w.heap.size] := by
    rintro old olds rfl
    have hge := grownCap_ge w (n + 1) old e
    have hcm : grownCap w (n + 1) old e ≤ maxLen := grownCap_le_maxLen w (n + 1) old e hmx
    simp only [maxLen] at hcm
    refine ⟨by simp [hxl, hys, Nat.add_mul], .inr ⟨_, _, rfl, rfl, heap_alloc_new w.drew _, hge, hcm, ?_, ?_⟩⟩
    · simp only [Array.size_append, List.size_toArray, size_zeroCells, hzs, hxl, hys]
      generalize grownCap w (n + 1) old e = G at hge ⊢
      obtain ⟨d, rfl⟩ : ∃ d, G = n + 1 + d := ⟨G - (n + 1), by omega⟩
      rw [show n + 1 + d - (n + 1) = d from by omega]
      simp only [Nat.add_mul, Nat.one_mul]
    · intro j v hv
      have hlt : j < (olds ++ ys).length := (List.getElem?_eq_some_iff.1 hv).1
      rw [Array.getElem?_append_left (by simpa using hlt)]
      simpa using hv
  have hkeep : ∀ o : Obj, Keep fp w (w.drew.alloc o) := fun o => ((Keep.refl fp w).drew).alloc o
  rcases hown.2 with ⟨rfl, rfl, rfl, rfl⟩ | ⟨g, cur, rfl, rfl, hh, hnc, hcm, hcs, hat⟩
  · have hx : xs = [] := List.eq_nil_of_length_eq_zero (by omega)
    subst hx
    have hr := run_append_nil (P := P) w t ty e i z ht hi hz ad 1 1 ys hl hu (by omega) (by omega) (by simp at hb1; omega)
    have hg := grown 0 [] rfl
    simp only [Nat.zero_add, List.nil_append, Array.empty_append] at hg ⊢
    exact ⟨_, _, _, hr, hg, .inr rfl, by simp, hkeep _⟩
  · by_cases hroom : n + 1 ≤ c
    · have hcn : (n + 1) * i.size ≤ c * i.size := Nat.mul_le_mul_right _ hroom
      have hn1 : (n + 1) * i.size = n * i.size + i.size := by rw [Nat.add_mul, Nat.one_mul]
      have hr := run_append_room_cells (P := P) w t ty e i ht hi g 0 n c ad 1 1 ys hl hu h1 hroom (by
        intro j hj
        have hlt' : 0 + n * i.size + j < cur.size := by omega
        rw [cell_of_heap hh, Array.getElem?_eq_getElem hlt']
        rfl) (by intro j hj; exact frozen_of_heap hh _)
      obtain ⟨cur', g1, g2, g3, g4⟩ := setCells_heap g ys (0 + n * i.size) w cur hh
      have hkp := setCells_keep (S := [g]) g ys (0 + n * i.size) w w (Keep.refl _ _) (.inl (by simp))
      refine ⟨g, c, _, hr, ⟨by simp [hxl, hys, hn1], .inr ⟨g, cur', rfl, rfl, g1, hroom, hcm, by rw [g2]; exact hcs, ?_⟩⟩, .inl (by simp), Nat.lt_of_lt_of_le (heap_lt hh) hkp.size, hkp⟩
      intro j v hv
      rw [List.getElem?_append] at hv
      split at hv
      · rename_i hj
        rw [g4 j (by omega)]
        exact hat j v hv
      · rename_i hj
        have h6 := (List.getElem?_eq_some_iff.1 hv).1
        have := g3 (j - xs.length) v hv (by omega)
        rwa [show 0 + n * i.size + (j - xs.length) = j from by omega] at this
    · have holds : ∀ j v, xs[j]? = some v → w.cell? ((⟨g, 0, none⟩ : Addr).add j) = some v := by
        intro j v hv
        rw [show (⟨g, 0, none⟩ : Addr).add j = ⟨g, j, none⟩ from by simp [Addr.add]; omega]
        exact (cell_of_heap hh _).trans (hat j v hv)
      have hr := run_append_grow (P := P) w t ty e i z ht hi hz ⟨g, 0, none⟩ n c xs hxl holds ad 1 1 ys hl hu (by omega) (by omega) (growslice_fits (by omega) hb1)
      exact ⟨_, _, _, hr, grown c xs rfl, .inr rfl, by simp, hkeep _⟩

theorem wp_append_S {o : Oper} {a : Act} {K : Act → World → Prop} {Q : Exit → Act → World → Prop} (s x : Operand) (t : TypeId)
    (ho : o.op = .call { callee := .builtin .append, args := #[s, x], argTypes := #[t, t] })
    (i : TypeInfo) (z : Value) (bytes : Nat) (ht : P.underlying t = some (.slice e)) (hi : P.info? e = some i) (hz : i.zero = some z)
    (hsize : i.size = size) (hs0 : 0 < size) (hby : i.bytes = bytes) (hzs : z.cells.size = size) (hs : a.eval s = .slice A n c) (ad : Addr) (hx : a.eval x = .slice (some ad) 1 1)
    (ys : List Value) (hown : OwnS w e size A n c xs fp) (hys : ys.length = size) (hu : ∀ j v, ys[j]? = some v → w.cell? (ad.add j) = some v) (h1 : ∀ u ∈ ys, u.oneCell' = true)
    (hn : n + 1 ≤ 1000000000000) (hbytes : bytes ≤ 100)
    (h : ∀ g c' w', OwnS w' e size (some ⟨g, 0, none⟩) (n + 1) c' (xs ++ ys) [g] → (g ∈ fp ∨ w.heap.size = g) → g < w'.heap.size → Keep fp w w' → K (a.put o.dst (.slice (some ⟨g, 0, none⟩) (n + 1) c')) w') : o.wp P a w K Q := by
  obtain ⟨g, c', w', hr, h2, h3, h4, h5⟩ := run_append_S (P := P) t o.type i z bytes ht hi hz hsize hs0 hby hzs hown ad hys hu h1 hn hbytes
  unfold Oper.wp execOp
  simp only [ho, resolve, invoke, builtin, Sem.run_bind, Sem.run_pure, Result.andThen_ok, List.map_toArray, List.map_cons, List.map_nil, hs, hx, hr]
  exact h g c' w' h2 h3 h4 h5

theorem wpList_append_S {ops : Array Oper} {rest : List Oper} {o : Oper} {a : Act} {Q : Exit → Act → World → Prop} (hgd : o.guard = none) (s x : Operand) (t : TypeId)
    (ho : o.op = .call { callee := .builtin .append, args := #[s, x], argTypes := #[t, t] })
    (i : TypeInfo) (z : Value) (bytes : Nat) (ht : P.underlying t = some (.slice e)) (hi : P.info? e = some i) (hz : i.zero = some z)
    (hsize : i.size = size) (hs0 : 0 < size) (hby : i.bytes = bytes) (hzs : z.cells.size = size) (hs : a.eval s = .slice A n c) (ad : Addr) (hx : a.eval x = .slice (some ad) 1 1)
    (ys : List Value) (hown : OwnS w e size A n c xs fp) (hys : ys.length = size) (hu : ∀ j v, ys[j]? = some v → w.cell? (ad.add j) = some v) (h1 : ∀ u ∈ ys, u.oneCell' = true)
    (hn : n + 1 ≤ 1000000000000) (hbytes : bytes ≤ 100)
    (h : ∀ g c' w', OwnS w' e size (some ⟨g, 0, none⟩) (n + 1) c' (xs ++ ys) [g] → (g ∈ fp ∨ w.heap.size = g) → g < w'.heap.size → Keep fp w w' → wpList P ops Q rest (a.put o.dst (.slice (some ⟨g, 0, none⟩) (n + 1) c')) w') : wpList P ops Q (o :: rest) a w :=
  wpList_plain hgd fun _ hK => wp_append_S s x t ho i z bytes ht hi hz hsize hs0 hby hzs hs ad hx ys hown hys hu h1 hn hbytes fun g c' w' h2 h3 h4 h5 => hK _ _ (h g c' w' h2 h3 h4 h5)

theorem step_append_S {ops : Array Oper} {o : Oper} {a : Act} {K : Act → World → Prop} {Q : Exit → Act → World → Prop} {E : Prop} (hgd : o.guard = none) (s x : Operand) (t : TypeId)
    (ho : o.op = .call { callee := .builtin .append, args := #[s, x], argTypes := #[t, t] })
    (i : TypeInfo) (z : Value) (bytes : Nat) (ht : P.underlying t = some (.slice e)) (hi : P.info? e = some i) (hz : i.zero = some z)
    (hsize : i.size = size) (hs0 : 0 < size) (hby : i.bytes = bytes) (hzs : z.cells.size = size) (hs : a.eval s = .slice A n c) (ad : Addr) (hx : a.eval x = .slice (some ad) 1 1)
    (ys : List Value) (hown : OwnS w e size A n c xs fp) (hys : ys.length = size) (hu : ∀ j v, ys[j]? = some v → w.cell? (ad.add j) = some v) (h1 : ∀ u ∈ ys, u.oneCell' = true)
    (hn : n + 1 ≤ 1000000000000) (hbytes : bytes ≤ 100)
    (h : ∀ g c' w', OwnS w' e size (some ⟨g, 0, none⟩) (n + 1) c' (xs ++ ys) [g] → (g ∈ fp ∨ w.heap.size = g) → g < w'.heap.size → Keep fp w w' → K (a.put o.dst (.slice (some ⟨g, 0, none⟩) (n + 1) c')) w') :
    if Region.wanted o (yielded ops a.tmps) = true then Oper.wp P o a w K Q else E := by
  have hw : Region.wanted o (yielded ops a.tmps) = true := by simp [Region.wanted, hgd]
  rw [if_pos hw]
  exact wp_append_S s x t ho i z bytes ht hi hz hsize hs0 hby hzs hs ad hx ys hown hys hu h1 hn hbytes h
end
end Go.Proofs.Ythmldeningpjbaa
/- restrict.Check -/
namespace Go.Proofs.Ythmldeningpjbaa
open Go Go.RowKit Sp

theorem stp_neq (s : Stp) (w : World) : (binOp .neq 199 (.agg #[.int .i64 s.cls, .int .i64 s.ton, .int .i64 s.up, .int .i64 s.dn]) (.agg #[.int .i64 0, .int .i64 0, .int .i64 0, .int .i64 0])).run Try.prog w = .ok (.bool (!decide (s = ⟨0, 0, 0, 0⟩))) w := by
  have u3 := Try.underlying3
  have a3 := Try.isAgg3
  have z3 := Try.sizeOf3
  have hS : Try.prog.underlying 199 = some (.struct (Try.prog.fieldsOf 199)) := by kernel_rfl
  have hp : Try.prog.stoodInHeld 199 = false := by kernel_rfl
  rw [run_neq_struct, show (10000 : Nat) = 9999 + 1 from rfl, run_equalIn_agg w 9999 199 _ _ hS hp]
  simp only [Program.fieldsOf, Try.underlying199]
  go_simp
  obtain ⟨a, b, c, d⟩ := s
  by_cases h1 : a = 0 <;> by_cases h2 : b = 0 <;> by_cases h3 : c = 0 <;> by_cases h4 : d = 0 <;> simp [h1, h2, h3, h4]

/-- a policy as a value -/
def PolV (w : World) (A : Option Addr) (c : Nat) (p : Pol) : Prop := p.steps.length ≤ c ∧ c ≤ maxLen ∧ Rd w 4 A p.steps.length (stcs p.steps)

set_option maxRecDepth 100000 in
set_option maxHeartbeats 2000000 in
theorem check_any (A : Option Addr) (c : Nat) (p : Pol) (w : World) (hp : PolV w A c p) :
    Calls Try.prog 140 #[.agg #[.slice A p.steps.length c, .int .i64 p.hold, .int .i64 p.calm, .int .i64 p.notice, .int .i64 p.grace]] w fun e w' => e = .returned (.int .i64 (checkS p)) ∧ Below w.heap.size w w' := by
  obtain ⟨h1, h2, hr⟩ := hp
  unfold maxLen at h2
  cases hw : within p.steps.length 1 8
  · go_enter Try.func140, Try.ntmps140
    go_wp2_with (go_at_call 118; refine (within_any _ _ _ _).mono ?_; rintro e w' ⟨rfl, rfl⟩)
    go_ret
    exact ⟨by simp [checkS, hw], (Below.refl _ _).alloc (Nat.le_refl _) _⟩
  · have hlen : 1 ≤ p.steps.length ∧ p.steps.length ≤ 8 := by simp [within] at hw; omega
    obtain ⟨b, off, rfl, hb, hc⟩ := hr.2 (by omega)
    obtain ⟨a0, a1, a2, a3⟩ := stcs_get (l := p.steps) (k := 0) (by omega)
    have c0 := hc _ _ a0
    have c1 := hc _ _ a1
    have c2 := hc _ _ a2
    have c3 := hc _ _ a3
    simp only [Nat.zero_mul, Nat.add_zero, Nat.zero_add] at c0 c1 c2 c3
    obtain ⟨s0, hs0⟩ : ∃ s0, s0 = p.steps[0]'(by omega) := ⟨_, rfl⟩
    rw [← hs0] at c0 c1 c2 c3
    have hh0 : p.steps.headD default = s0 := by
      rw [hs0, ← List.getD_eq_getElem?_getD.trans (by rw [List.getElem?_eq_getElem (by omega)]; rfl : (p.steps[0]?).getD default = p.steps[0]'(by omega))]
      cases p.steps <;> simp
    have hl1 : (0 : Int) < (p.steps.length : Int) := by omega
    obtain ⟨z, hz⟩ : ∃ z, z = !decide (s0 = ⟨0, 0, 0, 0⟩) := ⟨_, rfl⟩
    have hne : ∀ w, (binOp .neq 199 (.agg #[.int .i64 s0.cls, .int .i64 s0.ton, .int .i64 s0.up, .int .i64 s0.dn]) (.agg #[.int .i64 0, .int .i64 0, .int .i64 0, .int .i64 0])).run Try.prog w = .ok (.bool z) w := fun w => by rw [hz]; exact stp_neq s0 w
    have HH := Lib.hid (And.intro hh0 (And.intro hlen hz))
    clear a0 a1 a2 a3 hs0 hh0 hlen hz
    cases z
    case' true =>
      go_enter Try.func140, Try.ntmps140
      go_wp2_with (go_at_call 118; refine (within_any _ _ _ _).mono ?_; rintro e w' ⟨rfl, rfl⟩)
      all_goals (go_ret; refine ⟨?_, (Below.refl _ _).alloc (Nat.le_refl _) _⟩; rw [check_bad hw (by unfold badGlob; rw [HH.out.1, ← HH.out.2.2]; simp [*])]; rfl)
    go_enter Try.func140, Try.ntmps140
    go_upto_region 5 with (go_at_call 118; refine (within_any _ _ _ _).mono ?_; rintro e w' ⟨rfl, rfl⟩)
    any_goals (go_ret; refine ⟨?_, (Below.refl _ _).alloc (Nat.le_refl _) _⟩; rw [check_bad hw (by unfold badGlob; rw [HH.out.1]; simp [*])]; rfl)
    have hbg : badGlob p = false := by unfold badGlob; rw [HH.out.1, ← HH.out.2.2]; simp [*]
    have HG := Lib.hid hbg
    clear hbg hne c0 c1 c2 c3
    go_wp2_with fail
    have B0 : Below w.heap.size w (w.alloc (.cells #[.slice (some ⟨b, off, none⟩) p.steps.length c, .int .i64 p.hold, .int .i64 p.calm, .int .i64 p.notice, .int .i64 p.grace] 135)) := (Below.refl _ _).alloc (Nat.le_refl _) _
    obtain ⟨W, hW⟩ : ∃ W, W = w.alloc (.cells #[.slice (some ⟨b, off, none⟩) p.steps.length c, .int .i64 p.hold, .int .i64 p.calm, .int .i64 p.notice, .int .i64 p.grace] 135) := ⟨_, rfl⟩
    have fp0 : W.cell? ⟨w.heap.size, 0, none⟩ = some (.slice (some ⟨b, off, none⟩) p.steps.length c) := by rw [hW]; simp [World.cell?_alloc_new]
    rw [← hW] at B0 ⊢
    obtain ⟨bx, hbx⟩ : ∃ bx, bx = w.heap.size := ⟨_, rfl⟩
    rw [← hbx] at fp0 ⊢
    have HB := Lib.hid (And.intro B0 (And.intro hbx hr))
    clear hW B0 hbx
    go_loopg [44] (p.steps.length) (fun g i wr => ∃ k : Nat, g + k = p.steps.length ∧ i = .int .i64 k ∧ stepsOkN p.steps k = true ∧ Keep [] W wr)
    case atStart => exact ⟨0, rfl, rfl, rfl, Keep.refl _ _⟩
    case round =>
      obtain ⟨k, hk, rfl, hok, hK⟩ := hrel
      by_cases hlt : k < p.steps.length
      · have b0 := HB.out.1
        have bB : Below w.heap.size w wr := b0.trans (hK.below b0.size (by simp))
        have cw : ∀ {o : Nat} {u : Value}, w.cell? ⟨b, o, none⟩ = some u → wr.cell? ⟨b, o, none⟩ = some u := fun h => (bB.cell (p := ⟨b, _, none⟩) hb).trans h
        obtain ⟨a0, a1, a2, a3⟩ := stcs_get hlt
        have d0 := cw (hc _ _ a0)
        have d1 : wr.cell? ⟨b, off + k * 4 + 1, none⟩ = some (.int .i64 p.steps[k].ton) := cw (hc _ _ a1)
        have d2 : wr.cell? ⟨b, off + k * 4 + 2, none⟩ = some (.int .i64 p.steps[k].up) := cw (hc _ _ a2)
        have d3 : wr.cell? ⟨b, off + k * 4 + 3, none⟩ = some (.int .i64 p.steps[k].dn) := cw (hc _ _ a3)
        have fpr := hK.cell fp0 (by simp)
        have hsz : bx < wr.heap.size := World.block_lt_of_cell? wr _ fpr
        have hbl : b < wr.heap.size := Nat.lt_of_lt_of_le hb bB.size
        obtain ⟨st, hst⟩ : ∃ st, st = p.steps.getD k default := ⟨_, rfl⟩
        have hst' : p.steps[k] = st := by rw [hst, List.getD_eq_getElem?_getD, List.getElem?_eq_getElem hlt]; rfl
        rw [hst'] at d0 d1 d2 d3
        have HI := Lib.hid (And.intro hok (And.intro hK (And.intro bB hst)))
        have HC := Lib.hid hc
        clear hst' a0 a1 a2 a3 fp0 b0 bB hok hK hst hc
        by_cases hk0 : k = 0
        · subst hk0
          simp only [Nat.zero_mul, Nat.add_zero] at d0 d1 d2 d3
          go_wp2_with (go_at_call 118; refine (within_any _ _ _ _).mono ?_; rintro e w' ⟨rfl, rfl⟩)
          any_goals (go_ret; refine ⟨?_, HI.out.2.2.1.alloc HI.out.2.2.1.size _⟩; rw [check_not hw hlt (goodAt_bad HI.out.2.2.2 (by unfold goodStep; first | (simp [*]; done) | (rw [bnot_true (b := within st.dn 0 st.up) (by assumption)]; simp)))]; rfl)
          go_roundg (gk - 1)
          case measure => omega
          case rel => exact ⟨0 + 1, by omega, by go_num, stepsOkN_succ HI.out.1 (goodAt_zero HI.out.2.2.2 (goodStep_mk (by first | assumption | exact bnot_false (by assumption)) (by first | assumption | exact bnot_false (by assumption)) (by first | assumption | exact bnot_false (by assumption)) (by first | assumption | exact bnot_false (by assumption)))), HI.out.2.1.alloc _⟩
        · obtain ⟨a0, a1, a2, a3⟩ := stcs_get (l := p.steps) (k := k - 1) (by omega)
          have e0 := cw (HC.out _ _ a0)
          have e1 : wr.cell? ⟨b, off + (k - 1) * 4 + 1, none⟩ = some (.int .i64 (p.steps[k - 1]'(by omega)).ton) := cw (HC.out _ _ a1)
          have e2 : wr.cell? ⟨b, off + (k - 1) * 4 + 2, none⟩ = some (.int .i64 (p.steps[k - 1]'(by omega)).up) := cw (HC.out _ _ a2)
          have e3 : wr.cell? ⟨b, off + (k - 1) * 4 + 3, none⟩ = some (.int .i64 (p.steps[k - 1]'(by omega)).dn) := cw (HC.out _ _ a3)
          obtain ⟨pv, hpv⟩ : ∃ pv, pv = p.steps.getD (k - 1) default := ⟨_, rfl⟩
          have hpv' : p.steps[k - 1]'(by omega) = pv := by rw [hpv, List.getD_eq_getElem?_getD, List.getElem?_eq_getElem (by omega)]; rfl
          rw [hpv'] at e0 e1 e2 e3
          have HV := Lib.hid hpv
          have hk1 : (1 : Int) ≤ (k : Int) := by omega
          have hkz : ((k : Int) == 0) = false := by simp; omega
          have hkl : (k : Int) - 1 < (p.steps.length : Int) := by omega
          clear a0 a1 a2 a3 hpv hpv'
          go_wp2_with (go_at_call 118; refine (within_any _ _ _ _).mono ?_; rintro e w' ⟨rfl, rfl⟩)
          any_goals (go_ret; refine ⟨?_, by first | exact HI.out.2.2.1.alloc HI.out.2.2.1.size _ | exact (HI.out.2.2.1.alloc HI.out.2.2.1.size _).alloc (by have := HI.out.2.2.1.size; simp; omega) _⟩; first | (rw [check_not hw hlt (goodAt_badp hk0 HI.out.2.2.2 HV.out (by simp [goodPair]; omega))]; rfl) | (rw [check_not hw hlt (goodAt_bad HI.out.2.2.2 (by unfold goodStep; first | (simp [*]; done) | (rw [bnot_true (b := within st.dn 0 st.up) (by assumption)]; simp)))]; rfl))
          go_roundg (gk - 1)
          case measure => omega
          case rel => exact ⟨k + 1, by omega, by go_num, stepsOkN_succ HI.out.1 (goodAt_succ HI.out.2.2.2 HV.out (goodStep_mk (by first | assumption | exact bnot_false (by assumption)) (by first | assumption | exact bnot_false (by assumption)) (by first | assumption | exact bnot_false (by assumption)) (by first | assumption | exact bnot_false (by assumption))) (goodPair_mk (by omega) (by omega) (by omega) (by omega))), (HI.out.2.1.alloc _).alloc _⟩
      · obtain rfl : k = p.steps.length := by omega
        have HOK := Lib.hid hok
        clear hok
        go_wp2_with fail
        go_ret
        have b0 := HB.out.1
        exact ⟨by rw [check_yes hw HG.out HOK.out]; rfl, b0.trans (hK.below b0.size (by simp))⟩
end Go.Proofs.Ythmldeningpjbaa
