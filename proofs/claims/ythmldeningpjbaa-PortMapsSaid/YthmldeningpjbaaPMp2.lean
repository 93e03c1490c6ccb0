/- append of a whole slice onto a slice of the call's own (one-cell elements), in place or not. No program is named here. -/
import Derived.Test.YthmldeningpjbaaPMp0
import Derived.Laws.MakeOwn
import Derived.Test.YthmldeningpjbaaPMp1
import Derived.Test.YthmldeningpjbaaProg
import Derived.Deep.DeepCutAuto
set_option linter.unusedVariables false
set_option linter.unusedSimpArgs false
namespace Go.Proofs.Ythmldeningpjbaa
open Go Go.RowKit

section
variable {w : World} {e : TypeId} {A B : Option Addr} {n c m d : Nat} {xs ys : List Value} {fp : List Nat} {P : Program}

theorem setCells_heap (g : Nat) {t : TypeId} : ∀ (ys : List Value) (o : Nat) (w : World) (cur : Array Value), w.heap[g]? = some (.cells cur t (0, 0)) →
    ∃ cur', (w.setCells g o ys).heap[g]? = some (.cells cur' t (0, 0)) ∧ cur'.size = cur.size ∧ (∀ j u, ys[j]? = some u → o + j < cur.size → cur'[o + j]? = some u) ∧ (∀ i, i < o → cur'[i]? = cur[i]?)
  | [], o, w, cur, h => ⟨cur, h, rfl, by simp, fun _ _ => rfl⟩
  | y :: ys, o, w, cur, h => by
    obtain ⟨cur', h1, h2, h3, h4⟩ := setCells_heap g ys (o + 1) (w.setCell ⟨g, o, none⟩ y) (cur.setIfInBounds o y) (heap_set h o y)
    refine ⟨cur', h1, by simpa using h2, fun j u hu hlt => ?_, fun i hi => ?_⟩
    · cases j with
      | zero =>
        simp only [List.getElem?_cons_zero, Option.some.injEq] at hu
        subst hu
        rw [Nat.add_zero, h4 o (by omega)]
        simp at hlt
        simp [hlt]
      | succ j =>
        have := h3 j u (by simpa using hu) (by simp; omega)
        rwa [show o + 1 + j = o + (j + 1) from by omega] at this
    · rw [h4 i (by omega), Array.getElem?_setIfInBounds_ne (by omega)]

theorem setCells_keep {S : List Nat} (g : Nat) : ∀ (ys : List Value) (o : Nat) (w0 w : World), Keep S w0 w → (g ∈ S ∨ w0.heap.size ≤ g) → Keep S w0 (w.setCells g o ys)
  | [], _, _, _, h, _ => h
  | y :: ys, o, w0, _, h, hg => setCells_keep g ys (o + 1) w0 _ (h.setCell (p := ⟨g, o, none⟩) hg y) hg

theorem Rd.add_ {A : Option Addr} {n : Nat} {xs : List Value} (h : Rd w 1 A n xs) {ad : Addr} (he : A = some ad) : ∀ j u, xs[j]? = some u → w.cell? (ad.add j) = some u := by
  intro j u hu
  have hl : 0 < n := by
    have := (List.getElem?_eq_some_iff.1 hu).1
    have := h.1
    omega
  obtain ⟨b, off, e1, _, hc⟩ := h.2 hl
  rw [he] at e1
  injection e1 with e1
  subst e1
  have := hc j u hu
  by_cases hj : j = 0
  · subst hj; simpa [Addr.add] using this
  · simpa [Addr.add, hj] using this

theorem run_append_As (t ty : TypeId) (i : TypeInfo) (z : Value) (bytes : Nat) (ht : P.underlying t = some (.slice e)) (hi : P.info? e = some i) (hz : i.zero = some z)
    (hsize : i.size = 1) (hby : i.bytes = bytes) (hzs : z.cells.size = 1) (hown : OwnA w e A n c xs fp) (hr : Rd w 1 B m ys) (h1 : ∀ u ∈ ys, u.oneCell' = true)
    (hn : n + m ≤ 1000000000000) (hbytes : bytes ≤ 100) :
    ∃ A' c' w' fp', (Builtin.append_ #[t, t] ty #[.slice A n c, .slice B m d]).run P w = .ok (.slice A' (n + m) c') w' ∧
      OwnA w' e A' (n + m) c' (xs ++ ys) fp' ∧ (∀ g ∈ fp', g ∈ fp ∨ w.heap.size = g) ∧ Keep fp w w' := by
  subst hby
  have hym : ys.length = m := by have := hr.1; omega
  rcases Nat.eq_zero_or_pos m with hm | hm
  · -- nothing is appended
    subst hm
    obtain rfl : ys = [] := List.eq_nil_of_length_eq_zero hym
    refine ⟨A, c, w, fp, ?_, by simpa using hown, fun g hg => .inl hg, Keep.refl _ _⟩
    have hge := hown.ge
    have hfc : (Builtin.firstCells i.size 0 (.slice B 0 d)).run P w = .ok #[] w := by
      cases B with
      | none => simp [Builtin.firstCells]
      | some b => simp [Builtin.firstCells, loadCells, loadCellsFrom]
    cases A with
    | none => simp [Builtin.append_, run_underlying ht, sizeOf, typeInfo, hi, Builtin.lenOf, hge, hfc]
    | some a => simp [Builtin.append_, run_underlying ht, sizeOf, typeInfo, hi, Builtin.lenOf, hge, hfc, storeCells]
  · obtain ⟨b, off, rfl, hb, hc⟩ := hr.2 hm
    have hb1 : (n + m) * i.bytes ≤ 140737488355328 := Nat.le_trans (Nat.mul_le_mul hn hbytes) (by decide)
    have hnews := hr.add_ rfl
    have hl : ys.length = m * i.size := by rw [hsize, hym, Nat.mul_one]
    have hmx : n + m ≤ maxLen := by simp only [maxLen]; omega
    have grown : ∀ (old : Nat) (olds : List Value), olds = xs →
        OwnA (w.drew.alloc (.cells (olds.toArray ++ ys.toArray ++ Builtin.zeroCells z.cells (grownCap w (n + m) old e - (n + m))) e)) e (some ⟨w.heap.size, 0, none⟩) (n + m) (grownCap w (n + m) old e) (xs ++ ys) [w.heap.size] := by
      rintro old olds rfl
      have hge := grownCap_ge w (n + m) old e
      have hcm : grownCap w (n + m) old e ≤ maxLen := grownCap_le_maxLen w (n + m) old e hmx
      simp only [maxLen] at hcm
      refine ⟨by simp [hown.1, hym], .inr ⟨_, 0, _, rfl, rfl, heap_alloc_new w.drew _, hge, hcm, ?_, ?_⟩⟩
      · simp only [Array.size_append, List.size_toArray, size_zeroCells, hzs, hown.1, hym]
        omega
      · intro j v hv
        have hlt : j < (olds ++ ys).length := (List.getElem?_eq_some_iff.1 hv).1
        rw [Nat.zero_add, Array.getElem?_append_left (by simpa using hlt)]
        simpa using hv
    have hkeep : ∀ o : Obj, Keep fp w (w.drew.alloc o) := fun o => ((Keep.refl fp w).drew).alloc o
    rcases hown.2 with ⟨rfl, rfl, rfl, rfl⟩ | ⟨g, og, cur, rfl, rfl, hh, hnc, hcm, hcs, hat⟩
    · have hx : xs = [] := List.eq_nil_of_length_eq_zero hown.1
      subst hx
      have hrn := run_append_nil (P := P) w t ty e i z ht hi hz ⟨b, off, none⟩ m d ys hl hnews hm (by omega) (by simp at hb1; omega)
      have hg := grown 0 [] rfl
      simp only [Nat.zero_add, List.nil_append, Array.empty_append] at hg ⊢
      exact ⟨_, _, _, _, hrn, hg, fun y hy => .inr (List.mem_singleton.1 hy).symm, hkeep _⟩
    · by_cases hroom : n + m ≤ c
      · have hrn := run_append_room_cells (P := P) w t ty e i ht hi g og n c ⟨b, off, none⟩ m d ys hl hnews h1 hroom (by
          intro j hj
          rw [hym] at hj
          have hlt : og + n * i.size + j < cur.size := by rw [hsize]; omega
          rw [cell_of_heap hh, Array.getElem?_eq_getElem hlt]
          rfl) (fun j hj => frozen_of_heap hh _)
        rw [hsize, Nat.mul_one] at hrn
        obtain ⟨cur', g1, g2, g3, g4⟩ := setCells_heap g ys (og + n) w cur hh
        refine ⟨some ⟨g, og, none⟩, c, _, [g], hrn, ⟨by simp [hown.1, hym], .inr ⟨g, og, cur', rfl, rfl, g1, hroom, hcm, by rw [g2]; exact hcs, ?_⟩⟩, fun y hy => .inl hy, setCells_keep g ys _ w w (Keep.refl _ _) (.inl (by simp))⟩
        intro j v hv
        rw [List.getElem?_append] at hv
        split at hv
        · rename_i hj
          rw [g4 (og + j) (by have := hown.1; omega)]
          exact hat j v hv
        · rename_i hj
          have h5 := hown.1
          have h6 := (List.getElem?_eq_some_iff.1 hv).1
          have := g3 (j - xs.length) v hv (by omega)
          rwa [show og + n + (j - xs.length) = og + j from by omega] at this
      · have holds : ∀ j v, xs[j]? = some v → w.cell? ((⟨g, og, none⟩ : Addr).add j) = some v := by
          intro j v hv
          rw [show (⟨g, og, none⟩ : Addr).add j = ⟨g, og + j, none⟩ from by simp [Addr.add]]
          exact (cell_of_heap hh _).trans (hat j v hv)
        have hrn := run_append_grow (P := P) w t ty e i z ht hi hz ⟨g, og, none⟩ n c xs (by simp [hown.1, hsize]) holds ⟨b, off, none⟩ m d ys hl hnews (by omega) (by omega) (growslice_fits (by omega) hb1)
        exact ⟨_, _, _, _, hrn, grown c xs rfl, fun y hy => .inr (List.mem_singleton.1 hy).symm, hkeep _⟩

theorem wp_append_As {o : Oper} {a : Act} {K : Act → World → Prop} {Q : Exit → Act → World → Prop} (s x : Operand) (t : TypeId)
    (ho : o.op = .call { callee := .builtin .append, args := #[s, x], argTypes := #[t, t] })
    (i : TypeInfo) (z : Value) (bytes : Nat) (ht : P.underlying t = some (.slice e)) (hi : P.info? e = some i) (hz : i.zero = some z)
    (hsize : i.size = 1) (hby : i.bytes = bytes) (hzs : z.cells.size = 1) (hs : a.eval s = .slice A n c) (hx : a.eval x = .slice B m d)
    (hown : OwnA w e A n c xs fp) (hr : Rd w 1 B m ys) (h1 : ∀ u ∈ ys, u.oneCell' = true)
    (hn : n + m ≤ 1000000000000) (hbytes : bytes ≤ 100)
    (h : ∀ A' c' w' fp', OwnA w' e A' (n + m) c' (xs ++ ys) fp' → (∀ g ∈ fp', g ∈ fp ∨ w.heap.size = g) → Keep fp w w' → K (a.put o.dst (.slice A' (n + m) c')) w') : o.wp P a w K Q := by
  obtain ⟨A', c', w', fp', hrn, h2, h3, h4⟩ := run_append_As (P := P) (d := d) t o.type i z bytes ht hi hz hsize hby hzs hown hr h1 hn hbytes
  unfold Oper.wp execOp
  simp only [ho, resolve, invoke, builtin, Sem.run_bind, Sem.run_pure, Result.andThen_ok, List.map_toArray, List.map_cons, List.map_nil, hs, hx, hrn]
  exact h A' c' w' fp' h2 h3 h4

theorem wpList_append_As {ops : Array Oper} {rest : List Oper} {o : Oper} {a : Act} {Q : Exit → Act → World → Prop} (hgd : o.guard = none) (s x : Operand) (t : TypeId)
    (ho : o.op = .call { callee := .builtin .append, args := #[s, x], argTypes := #[t, t] })
    (i : TypeInfo) (z : Value) (bytes : Nat) (ht : P.underlying t = some (.slice e)) (hi : P.info? e = some i) (hz : i.zero = some z)
    (hsize : i.size = 1) (hby : i.bytes = bytes) (hzs : z.cells.size = 1) (hs : a.eval s = .slice A n c) (hx : a.eval x = .slice B m d)
    (hown : OwnA w e A n c xs fp) (hr : Rd w 1 B m ys) (h1 : ∀ u ∈ ys, u.oneCell' = true)
    (hn : n + m ≤ 1000000000000) (hbytes : bytes ≤ 100)
    (h : ∀ A' c' w' fp', OwnA w' e A' (n + m) c' (xs ++ ys) fp' → (∀ g ∈ fp', g ∈ fp ∨ w.heap.size = g) → Keep fp w w' → wpList P ops Q rest (a.put o.dst (.slice A' (n + m) c')) w') : wpList P ops Q (o :: rest) a w :=
  wpList_plain hgd fun _ hK => wp_append_As s x t ho i z bytes ht hi hz hsize hby hzs hs hx hown hr h1 hn hbytes fun A' c' w' fp' h2 h3 h4 => hK _ _ (h A' c' w' fp' h2 h3 h4)

theorem step_append_As {ops : Array Oper} {o : Oper} {a : Act} {K : Act → World → Prop} {Q : Exit → Act → World → Prop} {E : Prop} (hgd : o.guard = none) (s x : Operand) (t : TypeId)
    (ho : o.op = .call { callee := .builtin .append, args := #[s, x], argTypes := #[t, t] })
    (i : TypeInfo) (z : Value) (bytes : Nat) (ht : P.underlying t = some (.slice e)) (hi : P.info? e = some i) (hz : i.zero = some z)
    (hsize : i.size = 1) (hby : i.bytes = bytes) (hzs : z.cells.size = 1) (hs : a.eval s = .slice A n c) (hx : a.eval x = .slice B m d)
    (hown : OwnA w e A n c xs fp) (hr : Rd w 1 B m ys) (h1 : ∀ u ∈ ys, u.oneCell' = true)
    (hn : n + m ≤ 1000000000000) (hbytes : bytes ≤ 100)
    (h : ∀ A' c' w' fp', OwnA w' e A' (n + m) c' (xs ++ ys) fp' → (∀ g ∈ fp', g ∈ fp ∨ w.heap.size = g) → Keep fp w w' → K (a.put o.dst (.slice A' (n + m) c')) w') :
    if Region.wanted o (yielded ops a.tmps) = true then Oper.wp P o a w K Q else E := by
  have hw : Region.wanted o (yielded ops a.tmps) = true := by simp [Region.wanted, hgd]
  rw [if_pos hw]
  exact wp_append_As s x t ho i z bytes ht hi hz hsize hby hzs hs hx hown hr h1 hn hbytes h

/-- a block of n noughts -/
def noughts (n : Nat) : Array Value := (List.replicate n (Value.int .i64 0)).toArray

theorem run_make_ints (t : TypeId) (i : TypeInfo) (ht : P.underlying t = some (.slice e)) (hi : P.info? e = some i) (hz : i.zero = some (.int .i64 0)) (hsize : i.size = 1) (hby : i.bytes = 8) (n : Nat) (hn : n ≤ 1000000) (w : World) :
    (Instr.makeSlice t (.int .i64 (n : Int)) (.int .i64 (n : Int))).run P w = .ok (.slice (some ⟨w.heap.size, 0, none⟩) n n) (w.alloc (.cells (noughts n) e)) := by
  have hr := run_make (P := P) w t e i (.int .i64 0) ht hi hz .i64 .i64 n n (by omega) (Int.le_refl _) (by rw [hby]; omega) (by omega)
  simp only [Int.toNat_natCast, hsize, Nat.mul_one] at hr
  rw [hr]
  congr 3
  apply Array.ext'
  rw [show (Value.int IntKind.i64 0).cells = #[Value.int .i64 0] from rfl, toList_madeCells_one]
  simp [noughts]

theorem OwnA.made (w : World) (e : TypeId) (n : Nat) (hn : n ≤ 1000000) : OwnA (w.alloc (.cells (noughts n) e)) e (some ⟨w.heap.size, 0, none⟩) n n (List.replicate n (.int .i64 0)) [w.heap.size] :=
  ⟨by simp, .inr ⟨w.heap.size, 0, noughts n, rfl, rfl, heap_alloc_new w _, Nat.le_refl _, by omega, by simp [noughts], fun j u hu => by rw [Nat.zero_add, noughts, List.getElem?_toArray]; exact hu⟩⟩
end
end Go.Proofs.Ythmldeningpjbaa
/- slices of the call's own whose elements have several cells; append of one element. No program is named here. -/
namespace Go.Proofs.Ythmldeningpjbaa
open Go Go.RowKit

/-- A slice value (A, n, c) of elements of size cells, nil or in a block of its own. -/
def OwnS (w : World) (e : TypeId) (size : Nat) (A : Option Addr) (n c : Nat) (xs : List Value) (fp : List Nat) : Prop :=
  xs.length = n * size ∧ ((A = none ∧ n = 0 ∧ c = 0 ∧ fp = []) ∨
    ∃ (g : Nat) (cur : Array Value), A = some ⟨g, 0, none⟩ ∧ fp = [g] ∧ w.heap[g]? = some (.cells cur e (0, 0)) ∧ n ≤ c ∧ c ≤ 9223372036854775807 ∧ c * size = cur.size ∧ ∀ (j : Nat) (u : Value), xs[j]? = some u → cur[j]? = some u)

section
variable {w w' : World} {e : TypeId} {size : Nat} {A : Option Addr} {n c : Nat} {xs ys : List Value} {fp : List Nat} {P : Program}
theorem OwnS.nil (w : World) (e : TypeId) (size : Nat) : OwnS w e size none 0 0 [] [] := ⟨by simp, .inl ⟨rfl, rfl, rfl, rfl⟩⟩
theorem OwnS.lt (h : OwnS w e size A n c xs fp) : ∀ g ∈ fp, g < w.heap.size := by
  intro g hg
  rcases h.2 with ⟨_, _, _, rfl⟩ | ⟨g', cur, rfl, rfl, hh, _⟩
  · simp at hg
  · obtain rfl : g = g' := by simpa using hg
    exact heap_lt hh
theorem OwnS.ge (h : OwnS w e size A n c xs fp) : n ≤ c := by
  rcases h.2 with ⟨_, rfl, rfl, _⟩ | ⟨g', cur, rfl, rfl, hh, h1, _⟩ <;> omega
theorem OwnS.cap (h : OwnS w e size A n c xs fp) : c ≤ 9223372036854775807 := by
  rcases h.2 with ⟨_, _, rfl, _⟩ | ⟨g, cur, _, _, _, _, h, _⟩
  · omega
  · exact h
theorem OwnS.keepS {S : List Nat} (h : OwnS w e size A n c xs fp) (hk : Keep S w w') (hd : ∀ g ∈ fp, g ∉ S) : OwnS w' e size A n c xs fp := by
  refine ⟨h.1, ?_⟩
  rcases h.2 with h0 | ⟨g, cur, rfl, rfl, hh, r⟩
  · exact .inl h0
  · exact .inr ⟨g, cur, rfl, rfl, (hk.block g (heap_lt hh) (hd g (by simp))).trans hh, r⟩
theorem OwnS.alloc (h : OwnS w e size A n c xs fp) (o : Obj) : OwnS (w.alloc o) e size A n c xs fp := h.keepS ((Keep.refl [] w).alloc o) (by simp)
theorem OwnS.drewN (h : OwnS w e size A n c xs fp) (k : Nat) : OwnS (w.drewN k) e size A n c xs fp := h
theorem OwnS.setCell {p : Addr} (h : OwnS w e size A n c xs fp) (hp : p.block ∉ fp) (u : Value) : OwnS (w.setCell p u) e size A n c xs fp :=
  h.keepS ((Keep.refl [p.block] w).setCell (.inl (by simp)) u) (by simp; rintro g hg rfl; exact hp hg)
theorem OwnS.some_ (h : OwnS w e size A n c xs fp) (hn : 0 < n) : ∃ g, A = some ⟨g, 0, none⟩ ∧ fp = [g] ∧ g < w.heap.size ∧ (∀ j u, xs[j]? = some u → w.cell? ⟨g, j, none⟩ = some u) ∧ (∀ j, w.frozen? ⟨g, j, none⟩ = false) := by
  rcases h.2 with ⟨_, h0, _⟩ | ⟨g, cur, rfl, rfl, hh, h1, h2, h3, h4⟩
  · omega
  · exact ⟨g, rfl, rfl, heap_lt hh, fun j u hu => (cell_of_heap hh _).trans (h4 j u hu), fun j => frozen_of_heap hh j⟩
theorem OwnS.rd (h : OwnS w e size A n c xs fp) : Rd w size A n xs := by
  refine ⟨h.1, fun hn => ?_⟩
  obtain ⟨g, e, _, hl, hc, _⟩ := h.some_ hn
  exact ⟨g, 0, e, hl, fun j u hu => by rw [Nat.zero_add]; exact hc j u hu⟩
theorem OwnS.set_ {g : Nat} (h : OwnS w e size (some ⟨g, 0, none⟩) n c xs fp) (k : Nat) (u : Value) : OwnS (w.setCell ⟨g, k, none⟩ u) e size (some ⟨g, 0, none⟩) n c (xs.set k u) fp := by
  refine ⟨by rw [List.length_set, h.1], .inr ?_⟩
  rcases h.2 with ⟨h0, _⟩ | ⟨g', cur, he, rfl, hh, h1, h2, h3, h4⟩
  · cases h0
  · injection he with he
    injection he with e1 _ _
    subst e1
    refine ⟨g, cur.setIfInBounds k u, rfl, rfl, heap_set hh _ _, h1, h2, by simpa using h3, fun j v hv => ?_⟩
    rw [List.getElem?_set] at hv
    by_cases hjk : k = j
    · subst hjk
      rw [if_pos rfl] at hv
      split at hv
      · rename_i hk
        injection hv with e1
        subst e1
        have := (List.getElem?_eq_some_iff.1 (List.getElem?_eq_getElem hk)).1
        have hc := h4 k _ (List.getElem?_eq_getElem hk)
        have hcl := (Array.getElem?_eq_some_iff.1 hc).1
        rw [Array.getElem?_setIfInBounds_self_of_lt hcl]
      · cases hv
    · rw [if_neg hjk] at hv
      rw [Array.getElem?_setIfInBounds_ne (by omega)]
      exact h4 j v hv

theorem run_append_S (t ty : TypeId) (i : TypeInfo) (z : Value) (bytes : Nat) (ht : P.underlying t = some (.slice e)) (hi : P.info? e = some i) (hz : i.zero = some z)
    (hsize : i.size = size) (hs0 : 0 < size) (hby : i.bytes = bytes) (hzs : z.cells.size = size) (hown : OwnS w e size A n c xs fp) (ad : Addr) (hys : ys.length = size) (hu : ∀ j v, ys[j]? = some v → w.cell? (ad.add j) = some v) (h1 : ∀ u ∈ ys, u.oneCell' = true)
    (hn : n + 1 ≤ 1000000000000) (hbytes : bytes ≤ 100) :
    ∃ g c' w', (Builtin.append_ #[t, t] ty #[.slice A n c, .slice (some ad) 1 1]).run P w = .ok (.slice (some ⟨g, 0, none⟩) (n + 1) c') w' ∧
      OwnS w' e size (some ⟨g, 0, none⟩) (n + 1) c' (xs ++ ys) [g] ∧ (g ∈ fp ∨ w.heap.size = g) ∧ g < w'.heap.size ∧ Keep fp w w' := by
  subst hby hsize
  have hb1 : (n + 1) * i.bytes ≤ 140737488355328 := Nat.le_trans (Nat.mul_le_mul hn hbytes) (by decide)
  have hl : ys.length = 1 * i.size := by omega
  have hmx : n + 1 ≤ maxLen := by simp only [maxLen]; omega
  have hxl := hown.1
  have grown : ∀ (old : Nat) (olds : List Value), olds = xs →
      OwnS (w.drew.alloc (.cells (olds.toArray ++ ys.toArray ++ Builtin.zeroCells z.cells (grownCap w (n + 1) old e - (n + 1))) e)) e i.size (some ⟨w.heap.size, 0, none⟩) (n + 1) (grownCap w (n + 1) old e) (xs ++ ys) [w.heap.size] := by
    rintro old olds rfl
    have hge := grownCap_ge w (n + 1) old e
    have hcm : grownCap w (n + 1) old e ≤ maxLen := grownCap_le_maxLen w (n + 1) old e hmx
    simp only [maxLen] at hcm
    refine ⟨by simp [hxl, hys, Nat.add_mul], .inr ⟨_, _, rfl, rfl, heap_alloc_new w.drew _, hge, hcm, ?_, ?_⟩⟩
    · simp only [Array.size_append, List.size_toArray, size_zeroCells, hzs, hxl, hys]
      generalize grownCap w (n + 1) old e = G at hge ⊢
      obtain ⟨d, rfl⟩ : ∃ d, G = n + 1 + d := ⟨G - (n + 1), by omega⟩
      rw [show n + 1 + d - (n + 1) = d from by omega]
      simp only [Nat.add_mul, Nat.one_mul]
    · intro j v hv
      have hlt : j < (olds ++ ys).length := (List.getElem?_eq_some_iff.1 hv).1
      rw [Array.getElem?_append_left (by simpa using hlt)]
      simpa using hv
  have hkeep : ∀ o : Obj, Keep fp w (w.drew.alloc o) := fun o => ((Keep.refl fp w).drew).alloc o
  rcases hown.2 with ⟨rfl, rfl, rfl, rfl⟩ | ⟨g, cur, rfl, rfl, hh, hnc, hcm, hcs, hat⟩
  · have hx : xs = [] := List.eq_nil_of_length_eq_zero (by omega)
    subst hx
    have hr := run_append_nil (P := P) w t ty e i z ht hi hz ad 1 1 ys hl hu (by omega) (by omega) (by simp at hb1; omega)
    have hg := grown 0 [] rfl
    simp only [Nat.zero_add, List.nil_append, Array.empty_append] at hg ⊢
    exact ⟨_, _, _, hr, hg, .inr rfl, by simp, hkeep _⟩
  · by_cases hroom : n + 1 ≤ c
    · have hcn : (n + 1) * i.size ≤ c * i.size := Nat.mul_le_mul_right _ hroom
      have hn1 : (n + 1) * i.size = n * i.size + i.size := by rw [Nat.add_mul, Nat.one_mul]
      have hr := run_append_room_cells (P := P) w t ty e i ht hi g 0 n c ad 1 1 ys hl hu h1 hroom (by
        intro j hj
        have hlt' : 0 + n * i.size + j < cur.size := by omega
        rw [cell_of_heap hh, Array.getElem?_eq_getElem hlt']
        rfl) (by intro j hj; exact frozen_of_heap hh _)
      obtain ⟨cur', g1, g2, g3, g4⟩ := setCells_heap g ys (0 + n * i.size) w cur hh
      have hkp := setCells_keep (S := [g]) g ys (0 + n * i.size) w w (Keep.refl _ _) (.inl (by simp))
      refine ⟨g, c, _, hr, ⟨by simp [hxl, hys, hn1], .inr ⟨g, cur', rfl, rfl, g1, hroom, hcm, by rw [g2]; exact hcs, ?_⟩⟩, .inl (by simp), Nat.lt_of_lt_of_le (heap_lt hh) hkp.size, hkp⟩
      intro j v hv
      rw [List.getElem?_append] at hv
      split at hv
      · rename_i hj
        rw [g4 j (by omega)]
        exact hat j v hv
      · rename_i hj
        have h6 := (List.getElem?_eq_some_iff.1 hv).1
        have := g3 (j - xs.length) v hv (by omega)
        rwa [show 0 + n * i.size + (j - xs.length) = j from by omega] at this
    · have holds : ∀ j v, xs[j]? = some v → w.cell? ((⟨g, 0, none⟩ : Addr).add j) = some v := by
        intro j v hv
        rw [show (⟨g, 0, none⟩ : Addr).add j = ⟨g, j, none⟩ from by simp [Addr.add]; omega]
        exact (cell_of_heap hh _).trans (hat j v hv)
      have hr := run_append_grow (P := P) w t ty e i z ht hi hz ⟨g, 0, none⟩ n c xs hxl holds ad 1 1 ys hl hu (by omega) (by omega) (growslice_fits (by omega) hb1)
      exact ⟨_, _, _, hr, grown c xs rfl, .inr rfl, by simp, hkeep _⟩

theorem wp_append_S {o : Oper} {a : Act} {K : Act → World → Prop} {Q : Exit → Act → World → Prop} (s x : Operand) (t : TypeId)
    (ho : o.op = .call { callee := .builtin .append, args := #[s, x], argTypes := #[t, t] })
    (i : TypeInfo) (z : Value) (bytes : Nat) (ht : P.underlying t = some (.slice e)) (hi : P.info? e = some i) (hz : i.zero = some z)
    (hsize : i.size = size) (hs0 : 0 < size) (hby : i.bytes = bytes) (hzs : z.cells.size = size) (hs : a.eval s = .slice A n c) (ad : Addr) (hx : a.eval x = .slice (some ad) 1 1)
    (ys : List Value) (hown : OwnS w e size A n c xs fp) (hys : ys.length = size) (hu : ∀ j v, ys[j]? = some v → w.cell? (ad.add j) = some v) (h1 : ∀ u ∈ ys, u.oneCell' = true)
    (hn : n + 1 ≤ 1000000000000) (hbytes : bytes ≤ 100)
    (h : ∀ g c' w', OwnS w' e size (some ⟨g, 0, none⟩) (n + 1) c' (xs ++ ys) [g] → (g ∈ fp ∨ w.heap.size = g) → g < w'.heap.size → Keep fp w w' → K (a.put o.dst (.slice (some ⟨g, 0, none⟩) (n + 1) c')) w') : o.wp P a w K Q := by
  obtain ⟨g, c', w', hr, h2, h3, h4, h5⟩ := run_append_S (P := P) t o.type i z bytes ht hi hz hsize hs0 hby hzs hown ad hys hu h1 hn hbytes
  unfold Oper.wp execOp
  simp only [ho, resolve, invoke, builtin, Sem.run_bind, Sem.run_pure, Result.andThen_ok, List.map_toArray, List.map_cons, List.map_nil, hs, hx, hr]
  exact h g c' w' h2 h3 h4 h5

theorem wpList_append_S {ops : Array Oper} {rest : List Oper} {o : Oper} {a : Act} {Q : Exit → Act → World → Prop} (hgd : o.guard = none) (s x : Operand) (t : TypeId)
    (ho : o.op = .call { callee := .builtin .append, args := #[s, x], argTypes := #[t, t] })
    (i : TypeInfo) (z : Value) (bytes : Nat) (ht : P.underlying t = some (.slice e)) (hi : P.info? e = some i) (hz : i.zero = some z)
    (hsize : i.size = size) (hs0 : 0 < size) (hby : i.bytes = bytes) (hzs : z.cells.size = size) (hs : a.eval s = .slice A n c) (ad : Addr) (hx : a.eval x = .slice (some ad) 1 1)
    (ys : List Value) (hown : OwnS w e size A n c xs fp) (hys : ys.length = size) (hu : ∀ j v, ys[j]? = some v → w.cell? (ad.add j) = some v) (h1 : ∀ u ∈ ys, u.oneCell' = true)
    (hn : n + 1 ≤ 1000000000000) (hbytes : bytes ≤ 100)
    (h : ∀ g c' w', OwnS w' e size (some ⟨g, 0, none⟩) (n + 1) c' (xs ++ ys) [g] → (g ∈ fp ∨ w.heap.size = g) → g < w'.heap.size → Keep fp w w' → wpList P ops Q rest (a.put o.dst (.slice (some ⟨g, 0, none⟩) (n + 1) c')) w') : wpList P ops Q (o :: rest) a w :=
  wpList_plain hgd fun _ hK => wp_append_S s x t ho i z bytes ht hi hz hsize hs0 hby hzs hs ad hx ys hown hys hu h1 hn hbytes fun g c' w' h2 h3 h4 h5 => hK _ _ (h g c' w' h2 h3 h4 h5)

theorem step_append_S {ops : Array Oper} {o : Oper} {a : Act} {K : Act → World → Prop} {Q : Exit → Act → World → Prop} {E : Prop} (hgd : o.guard = none) (s x : Operand) (t : TypeId)
    (ho : o.op = .call { callee := .builtin .append, args := #[s, x], argTypes := #[t, t] })
    (i : TypeInfo) (z : Value) (bytes : Nat) (ht : P.underlying t = some (.slice e)) (hi : P.info? e = some i) (hz : i.zero = some z)
    (hsize : i.size = size) (hs0 : 0 < size) (hby : i.bytes = bytes) (hzs : z.cells.size = size) (hs : a.eval s = .slice A n c) (ad : Addr) (hx : a.eval x = .slice (some ad) 1 1)
    (ys : List Value) (hown : OwnS w e size A n c xs fp) (hys : ys.length = size) (hu : ∀ j v, ys[j]? = some v → w.cell? (ad.add j) = some v) (h1 : ∀ u ∈ ys, u.oneCell' = true)
    (hn : n + 1 ≤ 1000000000000) (hbytes : bytes ≤ 100)
    (h : ∀ g c' w', OwnS w' e size (some ⟨g, 0, none⟩) (n + 1) c' (xs ++ ys) [g] → (g ∈ fp ∨ w.heap.size = g) → g < w'.heap.size → Keep fp w w' → K (a.put o.dst (.slice (some ⟨g, 0, none⟩) (n + 1) c')) w') :
    if Region.wanted o (yielded ops a.tmps) = true then Oper.wp P o a w K Q else E := by
  have hw : Region.wanted o (yielded ops a.tmps) = true := by simp [Region.wanted, hgd]
  rw [if_pos hw]
  exact wp_append_S s x t ho i z bytes ht hi hz hsize hs0 hby hzs hs ad hx ys hown hys hu h1 hn hbytes h
end
end Go.Proofs.Ythmldeningpjbaa
/- Paths of berths that do not lie in certain blocks. No program's function is named here. -/
namespace Go.Proofs.Ythmldeningpjbaa
open Go Go.RowKit Sp Pt
set_option linter.unusedVariables false

/-- a path that lies in none of the blocks S -/
structure PathN (S : List Nat) (w : World) (A : Option Addr) (c : Nat) (l : List Int) : Prop where
  rd : Rd w 1 A l.length (ints l)
  off : 0 < l.length → ∀ b o, A = some ⟨b, o, none⟩ → b ∉ S
  ge : l.length ≤ c
  cap : c ≤ 9223372036854775807
  nil : A = none → c = 0
section
variable {S S' : List Nat} {w w' : World} {A : Option Addr} {c : Nat} {l : List Int}
theorem PathN.of_pathB {D : Nat} (h : PathB D w A c l) (hD : D ≤ w.heap.size) (hS : ∀ x ∈ S, D ≤ x) : PathN S w A c l :=
  ⟨h.1.rd hD, fun h0 b o e hm => by
    obtain ⟨b', o', e', hb, _⟩ := h.1.2 h0
    rw [e] at e'
    injection e' with e'
    injection e' with e1
    have := hS b hm
    omega, h.2.1, h.2.2.1, h.2.2.2⟩
theorem PathN.pathB (h : PathN S w A c l) : PathB w.heap.size w A c l := ⟨RdB.of h.rd (Nat.le_refl _), h.ge, h.cap, h.nil⟩
theorem PathN.of_ownA {e : TypeId} {q : List Nat} (h : OwnA w e A l.length c (ints l) q) (hS : ∀ g ∈ q, g ∉ S) : PathN S w A c l := by
  refine ⟨h.rd, fun h0 b o he hm => hS b (h.mem_ h0 he) hm, h.ge, ?_, fun hA => ?_⟩
  · rcases h.2 with ⟨_, _, rfl, _⟩ | ⟨g, off, cur, _, _, _, _, h, _⟩
    · omega
    · exact h
  · rcases h.2 with ⟨_, _, h2, _⟩ | ⟨g, off, cur, h1, _⟩
    · exact h2
    · rw [hA] at h1; cases h1
/-- blocks of S and new ones are changed -/
theorem PathN.keep (h : PathN S w A c l) {T : List Nat} (hk : Keep T w w') (hT : ∀ x ∈ T, x ∈ S ∨ w.heap.size ≤ x) (hS : ∀ x ∈ S', x ∈ S ∨ w.heap.size ≤ x) : PathN S' w' A c l := by
  have hlt : ∀ b o, 0 < l.length → A = some ⟨b, o, none⟩ → b < w.heap.size := fun b o h0 e => by
    obtain ⟨b', o', e', hb, _⟩ := h.rd.2 h0
    rw [e] at e'
    injection e' with e'
    injection e' with e1
    omega
  by_cases h0 : 0 < l.length
  · refine ⟨hk.rd h.rd fun b o e hm => ?_, fun _ b o e hm => ?_, h.ge, h.cap, h.nil⟩
    · have := hlt b o h0 e
      rcases hT b hm with h1 | h1
      · exact h.off h0 b o e h1
      · omega
    · have := hlt b o h0 e
      rcases hS b hm with h1 | h1
      · exact h.off h0 b o e h1
      · omega
  · exact ⟨⟨h.rd.1, fun h1 => absurd h1 h0⟩, fun h1 => absurd h1 h0, h.ge, h.cap, h.nil⟩
theorem PathN.below (h : PathN S w A c l) (hb : Below w.heap.size w w') : PathN S w' A c l := h.keep (T := []) (Keep.of_below hb) (by simp) (fun x hx => .inl hx)
end
/-- the paths of rows -/
def PathsN (S : List Nat) (w : World) (L : List BrR) : Prop := ∀ y ∈ L, PathN S w y.A y.c y.b.path
section
variable {S S' : List Nat} {w w' : World} {L : List BrR}
theorem PathsN.keep (h : PathsN S w L) {T : List Nat} (hk : Keep T w w') (hT : ∀ x ∈ T, x ∈ S ∨ w.heap.size ≤ x) (hS : ∀ x ∈ S', x ∈ S ∨ w.heap.size ≤ x) : PathsN S' w' L := fun y hy => (h y hy).keep hk hT hS
theorem PathsN.below (h : PathsN S w L) (hb : Below w.heap.size w w') : PathsN S w' L := fun y hy => (h y hy).below hb
theorem PathsN.set (h : PathsN S w L) {k : Nat} {y : BrR} (hy : PathN S w y.A y.c y.b.path) : PathsN S w (L.set k y) := fun z hz => by
  rcases List.mem_or_eq_of_mem_set hz with h1 | rfl
  · exact h z h1
  · exact hy
theorem PathsN.snoc (h : PathsN S w L) {y : BrR} (hy : PathN S w y.A y.c y.b.path) : PathsN S w (L ++ [y]) := fun z hz => by
  rcases List.mem_append.1 hz with h1 | h1
  · exact h z h1
  · rw [List.mem_singleton.1 h1]; exact hy
end
theorem brcs_set {L : List BrR} {k : Nat} (hk : k < L.length) (A : Option Addr) (c : Nat) : brcs (L.set k ⟨L[k].b, A, c⟩) = (brcs L).set (k * 2 + 1) (.slice A L[k].b.path.length c) := by
  induction L generalizing k with
  | nil => simp at hk
  | cons x L ih =>
    cases k with
    | zero => simp [brcs, brc]
    | succ k =>
      have := ih (k := k) (by simpa using hk)
      simp only [List.set_cons_succ, brcs, List.flatMap_cons, List.getElem_cons_succ] at this ⊢
      rw [this]
      simp [brc, show (k + 1) * 2 + 1 = k * 2 + 1 + 1 + 1 from by omega]
theorem map_set_b {L : List BrR} {k : Nat} (hk : k < L.length) (A : Option Addr) (c : Nat) : (L.set k ⟨L[k].b, A, c⟩).map (·.b) = L.map (·.b) := by
  rw [List.map_set]
  have : (L.map (·.b))[k]'(by simpa using hk) = L[k].b := by simp
  rw [← this, List.set_getElem_self]
theorem OwnS.nilS {w : World} {e : TypeId} {sz : Nat} {A : Option Addr} {n c : Nat} {xs : List Value} {q : List Nat} (h : OwnS w e sz A n c xs q) (hA : A = none) : c = 0 := by
  rcases h.2 with ⟨_, _, h2, _⟩ | ⟨g, cur, h1, _⟩
  · exact h2
  · rw [hA] at h1; cases h1
/-- a port out of what a walk made -/
theorem PrtB.of_own {w : World} {e1 e2 : TypeId} {Ac Ab : Option Addr} {cc cb : Nat} {q1 q2 S : List Nat} {p : Prt} {L : List BrR} (h1 : OwnS w e1 3 Ac p.chs.length cc (chcs p.chs) q1) (h2 : OwnS w e2 2 Ab p.bts.length cb (brcs L) q2) (hL : L.map (·.b) = p.bts) (hp : PathsN S w L) : PrtB w.heap.size w Ac cc Ab cb p :=
  ⟨RdB.of h1.rd (Nat.le_refl _), BtsB.of_rows hL (RdB.of h2.rd (Nat.le_refl _)) (fun y hy => (hp y hy).pathB), ⟨h1.ge, h1.cap, h1.nilS⟩, ⟨h2.ge, h2.cap, h2.nilS⟩⟩
theorem PlnB.of_own {w : World} {e1 e2 : TypeId} {Al As : Option Addr} {cl cs : Nat} {q1 q2 : List Nat} {l : Pln} (h1 : OwnS w e1 6 Al l.calls.length cl (cacs l.calls) q1) (h2 : OwnS w e2 3 As l.swps.length cs (swcs l.swps) q2) : PlnB w.heap.size w Al cl As cs l :=
  ⟨RdB.of h1.rd (Nat.le_refl _), RdB.of h2.rd (Nat.le_refl _), ⟨h1.ge, h1.cap, h1.nilS⟩, ⟨h2.ge, h2.cap, h2.nilS⟩⟩
end Go.Proofs.Ythmldeningpjbaa
/- The leaves of layer 9: within, maps. -/
namespace Go.Proofs.Ythmldeningpjbaa
open Go Go.RowKit Sp Pt

theorem ptWithin_any (n lo hi : Int) (w : World) :
    Calls Try.prog 80 #[.int .i64 n, .int .i64 lo, .int .i64 hi] w fun e w' => e = .returned (.bool (within n lo hi)) ∧ w = w' := by
  go_enter Try.func80, Try.ntmps80
  go_wp2
  all_goals (go_ret; refine ⟨?_, rfl⟩; simp [within]; try omega)

abbrev mpV (m : Mp) : Value := .agg #[.int .i64 m.add, .int .i64 m.floor, .int .i64 m.most]

theorem mpRight_any (m : Mp) (w : World) :
    Calls Try.prog 78 #[mpV m] w fun e w' => e = .returned (.bool (mright m)) ∧ Below w.heap.size w w' := by
  go_enter Try.func78, Try.ntmps78
  go_wp2_with (go_at_call 80; refine (ptWithin_any _ _ _ _).mono ?_; rintro e w' ⟨rfl, rfl⟩)
  all_goals (go_ret; refine ⟨?_, (Below.refl _ _).alloc (Nat.le_refl _) _⟩; simp_all [mright]; try (by_cases h : m.most = 1000000000 <;> simp [h]))

theorem nothing_any (v : Value) (w : World) : Calls Try.prog 74 #[v] w fun e w' => e = .returned (.tuple #[]) ∧ w = w' := by
  go_enter Try.func74, Try.ntmps74
  go_wp2
  go_end0
  exact ⟨rfl, rfl⟩

theorem Apply_any (m : Mp) (b : Int) (w : World) :
    Calls Try.prog 26 #[mpV m, .int .i64 b] w fun e w' => e = .returned (.tuple #[.int .i64 (applyN m b), .int .i64 (applyE m b)]) ∧ Below w.heap.size w w' := by
  obtain ⟨r, hr⟩ : ∃ r, r = mright m := ⟨_, rfl⟩
  obtain ⟨i, hi⟩ : ∃ i, i = within b 0 100000000 := ⟨_, rfl⟩
  have hm : ∀ wx, Calls Try.prog 78 #[mpV m] wx fun e w' => e = .returned (.bool r) ∧ Below wx.heap.size wx w' := fun wx => by rw [hr]; exact mpRight_any m wx
  have hw : ∀ wx, Calls Try.prog 80 #[.int .i64 b, .int .i64 0, .int .i64 100000000] wx fun e w' => e = .returned (.bool i) ∧ wx = w' := fun wx => by rw [hi]; exact ptWithin_any b 0 _ wx
  have h1 : r = true → -100000000 ≤ m.add ∧ m.add ≤ 100000000 := by intro h; have := mright_iff.1 (hr.symm.trans h); simp only [BIG] at this; omega
  have h2 : i = true → 0 ≤ b ∧ b ≤ 100000000 := by intro h; rw [hi] at h; simpa [within] using h
  have HR := Lib.hid (And.intro hr hi)
  clear hr hi
  cases r
  · go_enter Try.func26, Try.ntmps26
    go_wp2_with (go_at_call 78; refine (hm _).mono ?_; rintro e w' ⟨rfl, hb⟩)
    go_ret2
    have e1 : applyE m b = 1 := by unfold applyE; rw [← HR.out.1, if_pos rfl]
    exact ⟨by rw [applyN, e1]; rfl, ((Below.refl _ _).alloc (Nat.le_refl _) _).trans (hb.mono (by simp))⟩
  · obtain ⟨a1, a2⟩ := h1 rfl
    cases i
    · go_enter Try.func26, Try.ntmps26
      go_wp2_with (first | (go_at_call 78; refine (hm _).mono ?_; rintro e w' ⟨rfl, hb⟩) | (go_at_call 80; refine (hw _).mono ?_; rintro e w' ⟨rfl, rfl⟩))
      go_ret2
      have e1 : applyE m b = 6 := by unfold applyE; rw [← HR.out.1, if_neg (by decide), if_pos HR.out.2.symm]
      exact ⟨by rw [applyN, e1]; rfl, ((Below.refl _ _).alloc (Nat.le_refl _) _).trans (hb.mono (by simp))⟩
    · obtain ⟨b1, b2⟩ := h2 rfl
      go_enter Try.func26, Try.ntmps26
      go_wp2_with (first | (go_at_call 78; refine (hm _).mono ?_; rintro e w' ⟨rfl, hb⟩; have f2 : w'.cell? ⟨w.heap.size, 2, none⟩ = some (.int .i64 m.most) := (hb.cell (p := ⟨w.heap.size, 2, none⟩) (by simp)).trans (by simp [World.cell?_alloc_new]); have f1 : w'.cell? ⟨w.heap.size, 1, none⟩ = some (.int .i64 m.floor) := (hb.cell (p := ⟨w.heap.size, 1, none⟩) (by simp)).trans (by simp [World.cell?_alloc_new]); have f0 : w'.cell? ⟨w.heap.size, 0, none⟩ = some (.int .i64 m.add) := (hb.cell (p := ⟨w.heap.size, 0, none⟩) (by simp)).trans (by simp [World.cell?_alloc_new])) | (go_at_call 80; refine (hw _).mono ?_; rintro e w' ⟨rfl, rfl⟩))
      all_goals
        go_ret2
        have e1 : applyE m b = if m.most < b then 8 else 0 := by unfold applyE; rw [← HR.out.1, if_neg (by decide), if_neg (by rw [← HR.out.2]; decide)]
        refine ⟨?_, ((Below.refl _ _).alloc (Nat.le_refl _) _).trans (hb.mono (by simp))⟩
        rw [applyN, e1]
        first | (simp [*]; done) | (simp [*]; omega)
end Go.Proofs.Ythmldeningpjbaa
/- polynyalaw09.heavy: whether a port, a plan, a state are more than what is looked at -/
namespace Go.Proofs.Ythmldeningpjbaa
open Go Go.RowKit Sp Pt
set_option linter.unusedVariables false
set_option linter.unusedSimpArgs false

def longP (b : Brt) : Bool := decide (10 < b.path.length)
def heavyB (p : Prt) (l : Pln) (nb nu : Nat) : Bool := decide (10 < p.chs.length) || (decide (8 < p.bts.length) || (p.bts.any longP || (decide (70 < l.calls.length) || (decide (210 < l.swps.length) || (decide (10 < nb) || decide (10 < nu))))))
theorem heavy1_any (b : Brt) (A : Option Addr) (c : Nat) (w : World) : Calls Try.prog 84 #[.agg #[.int .i64 b.depth, .slice A b.path.length c]] w fun e w' => e = .returned (.bool (longP b)) ∧ Below w.heap.size w w' := by
  by_cases h : 10 < b.path.length
  all_goals
    have h1 : longP b = decide (10 < b.path.length) := rfl
    go_enter Try.func84, Try.ntmps84
    go_wp2_with fail
    go_ret
    exact ⟨by rw [h1]; simp [h]; try omega, by first | exact Below.refl _ _ | exact (Below.refl _ _).alloc (Nat.le_refl _) _⟩
set_option maxHeartbeats 1000000 in
theorem heavyI_any (A : Option Addr) (c : Nat) (L : List BrR) (w : World) (hr : Rd w 2 A L.length (brcs L)) (hm : L.length ≤ 9223372036854775807) :
    Calls Try.prog 126 #[.slice A L.length c, .func (.func 84) #[] #[]] w fun e w' => ∃ r : Int, e = .returned (.int .i64 r) ∧ decide (0 ≤ r) = L.any (fun y => longP y.b) ∧ Below w.heap.size w w' := by
  go_enter Try.func126, Try.ntmps126
  go_wp2_with fail
  go_loopg [8] (L.length) (fun g i wr => ∃ k : Nat, g + k = L.length ∧ i = .int .i64 k ∧ (L.take k).any (fun y => longP y.b) = false ∧ Below w.heap.size w wr)
  case atStart => exact ⟨0, rfl, rfl, by simp, Below.refl _ _⟩
  case round =>
    obtain ⟨k, hk, rfl, hb, hB⟩ := hrel
    have HB := Lib.hid (And.intro hb hB)
    by_cases hlt : k < L.length
    · obtain ⟨b, off, rfl, hbb, hc⟩ := hr.2 (by omega)
      obtain ⟨g0, g1⟩ := brcs_get hlt
      have c0 := (hB.cell (p := ⟨b, off + k * 2, none⟩) hbb).trans (hc _ _ g0)
      have c1 : wr.cell? ⟨b, off + k * 2 + 1, none⟩ = _ := (hB.cell (p := ⟨b, off + (k * 2 + 1), none⟩) hbb).trans (hc _ _ g1)
      obtain ⟨y, hy⟩ : ∃ y, y = L[k] := ⟨_, rfl⟩
      rw [← hy] at c0 c1
      obtain ⟨z, hz⟩ : ∃ z, z = longP y.b := ⟨_, rfl⟩
      have H := fun wx => heavy1_any y.b y.A y.c wx
      rw [← hz] at H
      have hs : (L.take (k + 1)).any (fun y => longP y.b) = z := by rw [List.take_succ_eq_append_getElem hlt, List.any_append, hb, ← hy, hz]; simp
      have HH := Lib.hid (And.intro H hs)
      have hn1 : (0 : Int) ≤ (k : Int) := by omega
      clear H hs hz hy hc hr hb hB g0 g1
      cases z
      · go_wp2_with (go_at_call 84; refine (HH.out.1 _).mono ?_; rintro e w' ⟨rfl, b'⟩; have HB' := Lib.hid b'; clear b')
        go_roundg (gk - 1)
        case measure => omega
        case rel => exact ⟨k + 1, by omega, by go_num, HH.out.2, HB.out.2.trans (HB'.out.mono HB.out.2.size)⟩
      · go_wp2_with (go_at_call 84; refine (HH.out.1 _).mono ?_; rintro e w' ⟨rfl, b'⟩; have HB' := Lib.hid b'; clear b')
        go_ret
        refine ⟨k, rfl, ?_, HB.out.2.trans (HB'.out.mono HB.out.2.size)⟩
        have h1 : L.any (fun y => longP y.b) = true := by
          obtain ⟨y, hy, hfy⟩ := List.any_eq_true.1 HH.out.2
          exact List.any_eq_true.2 ⟨y, List.mem_of_mem_take hy, hfy⟩
        rw [h1]; simp
    · obtain rfl : k = L.length := by omega
      go_wp2_with fail
      go_ret
      exact ⟨-1, rfl, by have := HB.out.1; rw [List.take_length] at this; rw [this]; simp, HB.out.2⟩
theorem heavyC_any (A : Option Addr) (c : Nat) (L : List BrR) (w : World) (hr : Rd w 2 A L.length (brcs L)) (hm : L.length ≤ 9223372036854775807) :
    Calls Try.prog 83 #[.slice A L.length c, .func (.func 84) #[] #[]] w fun e w' => e = .returned (.bool (L.any (fun y => longP y.b))) ∧ Below w.heap.size w w' := by
  have H := heavyI_any A c L w hr hm
  go_enter Try.func83, Try.ntmps83
  go_wp2_with (go_at_call 126; refine H.mono ?_; rintro e w' ⟨r, rfl, hd, hB⟩; have HD := Lib.hid (And.intro hd hB); clear hd hB)
  go_ret
  exact ⟨by rw [← HD.out.1]; rfl, HD.out.2⟩
set_option maxRecDepth 100000 in
set_option maxHeartbeats 4000000 in
theorem heavy_any (D : Nat) (Ac : Option Addr) (cc : Nat) (Ab : Option Addr) (cb : Nat) (p : Prt) (Al : Option Addr) (cl : Nat) (As : Option Addr) (cs : Nat) (l : Pln) (Ar : Option Addr) (nb cr : Nat) (Au : Option Addr) (nu cu : Nat) (w : World)
    (hp : PrtB D w Ac cc Ab cb p) (hD : D ≤ w.heap.size) :
    Calls Try.prog 30 #[.agg (prtV Ac cc Ab cb p), .agg (plnV Al cl As cs l), .agg #[.slice Ar nb cr, .slice Au nu cu]] w fun e w' => e = .returned (.bool (heavyB p l nb nu)) ∧ Below w.heap.size w w' := by
  obtain ⟨L, hL, hrd, _⟩ := hp.bts.rows
  have hlen : L.length = p.bts.length := by rw [← hL]; simp
  have hm : L.length ≤ 9223372036854775807 := by have := hp.c2.1; have := hp.c2.2.1; omega
  have hcont : ∀ wx, Below w.heap.size w wx → Calls Try.prog 83 #[.slice Ab p.bts.length cb, .func (.func 84) #[] #[]] wx fun e w' => e = .returned (.bool (p.bts.any longP)) ∧ Below wx.heap.size wx w' := by
    intro wx hb
    have h := heavyC_any Ab cb L wx (by rw [hlen]; exact ((hrd.mono hD).below hb).rd hb.size) hm
    rw [hlen] at h
    refine h.mono ?_
    rintro e w' ⟨rfl, hB⟩
    exact ⟨by rw [← hL, List.any_map]; rfl, hB⟩
  obtain ⟨z, hz⟩ : ∃ z, z = p.bts.any longP := ⟨_, rfl⟩
  rw [← hz] at hcont
  have hv : heavyB p l nb nu = (decide (10 < p.chs.length) || (decide (8 < p.bts.length) || (z || (decide (70 < l.calls.length) || (decide (210 < l.swps.length) || (decide (10 < nb) || decide (10 < nu))))))) := by rw [hz]; rfl
  have b3 : ∀ o1 o2 o3, Below w.heap.size w (((w.alloc o1).alloc o2).alloc o3) := fun _ _ _ => (((Below.refl _ _).alloc (Nat.le_refl _) _).alloc (by simp) _).alloc (by simp; omega) _
  have H := Lib.hid (And.intro hcont (And.intro hv b3))
  clear hcont hv b3 hp hL hrd hz hm hlen
  by_cases h1 : 10 < p.chs.length
  · go_enter Try.func30, Try.ntmps30
    go_wp2_with fail
    go_ret
    exact ⟨by rw [H.out.2.1]; simp [h1], H.out.2.2 _ _ _⟩
  by_cases h2 : 8 < p.bts.length
  · go_enter Try.func30, Try.ntmps30
    go_wp2_with fail
    go_ret
    exact ⟨by rw [H.out.2.1]; simp [h1, h2], H.out.2.2 _ _ _⟩
  cases z
  · by_cases h4 : 70 < l.calls.length
    · go_enter Try.func30, Try.ntmps30
      go_wp2_with (go_at_call 83; refine (H.out.1 _ (H.out.2.2 _ _ _)).mono ?_; rintro e w' ⟨rfl, hB⟩; obtain ⟨hc, hf⟩ := bcell hB; have HB := Lib.hid ((H.out.2.2 _ _ _).trans (hB.mono (H.out.2.2 _ _ _).size)); clear hB)
      go_ret
      exact ⟨by rw [H.out.2.1]; simp [h1, h2, h4]; try omega, HB.out⟩
    by_cases h5 : 210 < l.swps.length
    · go_enter Try.func30, Try.ntmps30
      go_wp2_with (go_at_call 83; refine (H.out.1 _ (H.out.2.2 _ _ _)).mono ?_; rintro e w' ⟨rfl, hB⟩; obtain ⟨hc, hf⟩ := bcell hB; have HB := Lib.hid ((H.out.2.2 _ _ _).trans (hB.mono (H.out.2.2 _ _ _).size)); clear hB)
      go_ret
      exact ⟨by rw [H.out.2.1]; simp [h1, h2, h4, h5]; try omega, HB.out⟩
    by_cases h6 : 10 < nb
    · go_enter Try.func30, Try.ntmps30
      go_wp2_with (go_at_call 83; refine (H.out.1 _ (H.out.2.2 _ _ _)).mono ?_; rintro e w' ⟨rfl, hB⟩; obtain ⟨hc, hf⟩ := bcell hB; have HB := Lib.hid ((H.out.2.2 _ _ _).trans (hB.mono (H.out.2.2 _ _ _).size)); clear hB)
      go_ret
      exact ⟨by rw [H.out.2.1]; simp [h1, h2, h4, h5, h6]; try omega, HB.out⟩
    by_cases h7 : 10 < nu
    · go_enter Try.func30, Try.ntmps30
      go_wp2_with (go_at_call 83; refine (H.out.1 _ (H.out.2.2 _ _ _)).mono ?_; rintro e w' ⟨rfl, hB⟩; obtain ⟨hc, hf⟩ := bcell hB; have HB := Lib.hid ((H.out.2.2 _ _ _).trans (hB.mono (H.out.2.2 _ _ _).size)); clear hB)
      go_ret
      exact ⟨by rw [H.out.2.1]; simp [h1, h2, h4, h5, h6, h7]; try omega, HB.out⟩
    · go_enter Try.func30, Try.ntmps30
      go_wp2_with (go_at_call 83; refine (H.out.1 _ (H.out.2.2 _ _ _)).mono ?_; rintro e w' ⟨rfl, hB⟩; obtain ⟨hc, hf⟩ := bcell hB; have HB := Lib.hid ((H.out.2.2 _ _ _).trans (hB.mono (H.out.2.2 _ _ _).size)); clear hB)
      go_ret
      exact ⟨by rw [H.out.2.1]; simp [h1, h2, h4, h5, h6, h7]; try omega, HB.out⟩
  · go_enter Try.func30, Try.ntmps30
    go_wp2_with (go_at_call 83; refine (H.out.1 _ (H.out.2.2 _ _ _)).mono ?_; rintro e w' ⟨rfl, hB⟩; obtain ⟨hc, hf⟩ := bcell hB; have HB := Lib.hid ((H.out.2.2 _ _ _).trans (hB.mono (H.out.2.2 _ _ _).size)); clear hB)
    go_ret
    exact ⟨by rw [H.out.2.1]; simp, HB.out⟩
end Go.Proofs.Ythmldeningpjbaa
