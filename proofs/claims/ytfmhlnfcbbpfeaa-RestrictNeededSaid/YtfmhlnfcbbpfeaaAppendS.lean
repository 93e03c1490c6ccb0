/- slices of the call's own whose elements have several cells; append of one element. No program is named here. -/
import Derived.Test.YtfmhlnfcbbpfeaaAppend
namespace Go.Proofs.Ytfmhlnfcbbpfeaa
open Go Go.RowKit

/-- A slice value (A, n, c) of elements of size cells, nil or in a block of its own. -/
def OwnS (w : World) (e : TypeId) (size : Nat) (A : Option Addr) (n c : Nat) (xs : List Value) (fp : List Nat) : Prop :=
  xs.length = n * size ∧ ((A = none ∧ n = 0 ∧ c = 0 ∧ fp = []) ∨
    ∃ (g : Nat) (cur : Array Value), A = some ⟨g, 0, none⟩ ∧ fp = [g] ∧ w.heap[g]? = some (.cells cur e (0, 0)) ∧ n ≤ c ∧ c ≤ 9223372036854775807 ∧ c * size = cur.size ∧ ∀ (j : Nat) (u : Value), xs[j]? = some u → cur[j]? = some u)

section
variable {w w' : World} {e : TypeId} {size : Nat} {A : Option Addr} {n c : Nat} {xs ys : List Value} {fp : List Nat} {P : Program}
theorem OwnS.nil (w : World) (e : TypeId) (size : Nat) : OwnS w e size none 0 0 [] [] := ⟨by simp, .inl ⟨rfl, rfl, rfl, rfl⟩⟩
theorem OwnS.lt (h : OwnS w e size A n c xs fp) : ∀ g ∈ fp, g < w.heap.size := by
  intro g hg
  rcases h.2 with ⟨_, _, _, rfl⟩ | ⟨g', cur, rfl, rfl, hh, _⟩
  · simp at hg
  · obtain rfl : g = g' := by simpa using hg
    exact heap_lt hh
theorem OwnS.ge (h : OwnS w e size A n c xs fp) : n ≤ c := by
  rcases h.2 with ⟨_, rfl, rfl, _⟩ | ⟨g', cur, rfl, rfl, hh, h1, _⟩ <;> omega
theorem OwnS.cap (h : OwnS w e size A n c xs fp) : c ≤ 9223372036854775807 := by
  rcases h.2 with ⟨_, _, rfl, _⟩ | ⟨g, cur, _, _, _, _, h, _⟩
  · omega
  · exact h
theorem OwnS.keepS {S : List Nat} (h : OwnS w e size A n c xs fp) (hk : Keep S w w') (hd : ∀ g ∈ fp, g ∉ S) : OwnS w' e size A n c xs fp := by
  refine ⟨h.1, ?_⟩
  rcases h.2 with h0 | ⟨g, cur, rfl, rfl, hh, r⟩
  · exact .inl h0
  · exact .inr ⟨g, cur, rfl, rfl, (hk.block g (heap_lt hh) (hd g (by simp))).trans hh, r⟩
theorem OwnS.alloc (h : OwnS w e size A n c xs fp) (o : Obj) : OwnS (w.alloc o) e size A n c xs fp := h.keepS ((Keep.refl [] w).alloc o) (by simp)
theorem OwnS.drewN (h : OwnS w e size A n c xs fp) (k : Nat) : OwnS (w.drewN k) e size A n c xs fp := h
theorem OwnS.setCell {p : Addr} (h : OwnS w e size A n c xs fp) (hp : p.block ∉ fp) (u : Value) : OwnS (w.setCell p u) e size A n c xs fp :=
  h.keepS ((Keep.refl [p.block] w).setCell (.inl (by simp)) u) (by simp; rintro g hg rfl; exact hp hg)
theorem OwnS.some_ (h : OwnS w e size A n c xs fp) (hn : 0 < n) : ∃ g, A = some ⟨g, 0, none⟩ ∧ fp = [g] ∧ g < w.heap.size ∧ (∀ j u, xs[j]? = some u → w.cell? ⟨g, j, none⟩ = some u) ∧ (∀ j, w.frozen? ⟨g, j, none⟩ = false) := by
  rcases h.2 with ⟨_, h0, _⟩ | ⟨g, cur, rfl, rfl, hh, h1, h2, h3, h4⟩
  · omega
  · exact ⟨g, rfl, rfl, heap_lt hh, fun j u hu => (cell_of_heap hh _).trans (h4 j u hu), fun j => frozen_of_heap hh j⟩
theorem OwnS.rd (h : OwnS w e size A n c xs fp) : Rd w size A n xs := by
  refine ⟨h.1, fun hn => ?_⟩
  obtain ⟨g, e, _, hl, hc, _⟩ := h.some_ hn
  exact ⟨g, 0, e, hl, fun j u hu => by rw [Nat.zero_add]; exact hc j u hu⟩
theorem OwnS.set_ {g : Nat} (h : OwnS w e size (some ⟨g, 0, none⟩) n c xs fp) (k : Nat) (u : Value) : OwnS (w.setCell ⟨g, k, none⟩ u) e size (some ⟨g, 0, none⟩) n c (xs.set k u) fp := by
  refine ⟨by rw [List.length_set, h.1], .inr ?_⟩
  rcases h.2 with ⟨h0, _⟩ | ⟨g', cur, he, rfl, hh, h1, h2, h3, h4⟩
  · cases h0
  · injection he with he
    injection he with e1 _ _
    subst e1
    refine ⟨g, cur.setIfInBounds k u, rfl, rfl, heap_set hh _ _, h1, h2, by simpa using h3, fun j v hv => ?_⟩
    rw [List.getElem?_set] at hv
    by_cases hjk : k = j
    · subst hjk
      rw [if_pos rfl] at hv
      split at hv
      · rename_i hk
        injection hv with e1
        subst e1
        have := (List.getElem?_eq_some_iff.1 (List.getElem?_eq_getElem hk)).1
        have hc := h4 k _ (List.getElem?_eq_getElem hk)
        have hcl := (Array.getElem?_eq_some_iff.1 hc).1
        rw [Array.getElem?_setIfInBounds_self_of_lt hcl]
      · cases hv
    · rw [if_neg hjk] at hv
      rw [Array.getElem?_setIfInBounds_ne (by omega)]
      exact h4 j v hv

theorem run_append_S (t ty : TypeId) (i : TypeInfo) (z : Value) (bytes : Nat) (ht : P.underlying t = some (.slice e)) (hi : P.info? e = some i) (hz : i.zero = some z)
    (hsize : i.size = size) (hs0 : 0 < size) (hby : i.bytes = bytes) (hzs : z.cells.size = size) (hown : OwnS w e size A n c xs fp) (ad : Addr) (hys : ys.length = size) (hu : ∀ j v, ys[j]? = some v → w.cell? (ad.add j) = some v) (h1 : ∀ u ∈ ys, u.oneCell' = true)
    (hn : n + 1 ≤ 1000000000000) (hbytes : bytes ≤ 100) :
    ∃ g c' w', (Builtin.append_ #[t, t] ty #[.slice A n c, .slice (some ad) 1 1]).run P w = .ok (.slice (some ⟨g, 0, none⟩) (n + 1) c') w' ∧
      OwnS w' e size (some ⟨g, 0, none⟩) (n + 1) c' (xs ++ ys) [g] ∧ (g ∈ fp ∨ w.heap.size = g) ∧ g < w'.heap.size ∧ Keep fp w w' := by
  subst hby hsize
  have hb1 : (n + 1) * i.bytes ≤ 140737488355328 := Nat.le_trans (Nat.mul_le_mul hn hbytes) (by decide)
  have hl : ys.length = 1 * i.size := by omega
  have hmx : n + 1 ≤ maxLen := by simp only [maxLen]; omega
  have hxl := hown.1
  have grown : ∀ (old : Nat) (olds : List Value), olds = xs →
      OwnS (w.drew.alloc (.cells (olds.toArray ++ ys.toArray ++ Builtin.zeroCells z.cells (grownCap w (n + 1) old e - (n + 1))) e)) e i.size (some ⟨w.heap.size, 0, none⟩) (n + 1) (grownCap w (n + 1) old e) (xs ++ ys) [w.heap.size] := by
    rintro old olds rfl
    have hge := grownCap_ge w (n + 1) old e
    have hcm : grownCap w (n + 1) old e ≤ maxLen := grownCap_le_maxLen w (n + 1) old e hmx
    simp only [maxLen] at hcm
    refine ⟨by simp [hxl, hys, Nat.add_mul], .inr ⟨_, _, rfl, rfl, heap_alloc_new w.drew _, hge, hcm, ?_, ?_⟩⟩
    · simp only [Array.size_append, List.size_toArray, size_zeroCells, hzs, hxl, hys]
      generalize grownCap w (n + 1) old e = G at hge ⊢
      obtain ⟨d, rfl⟩ : ∃ d, G = n + 1 + d := ⟨G - (n + 1), by omega⟩
      rw [show n + 1 + d - (n + 1) = d from by omega]
      simp only [Nat.add_mul, Nat.one_mul]
    · intro j v hv
      have hlt : j < (olds ++ ys).length := (List.getElem?_eq_some_iff.1 hv).1
      rw [Array.getElem?_append_left (by simpa using hlt)]
      simpa using hv
  have hkeep : ∀ o : Obj, Keep fp w (w.drew.alloc o) := fun o => ((Keep.refl fp w).drew).alloc o
  rcases hown.2 with ⟨rfl, rfl, rfl, rfl⟩ | ⟨g, cur, rfl, rfl, hh, hnc, hcm, hcs, hat⟩
  · have hx : xs = [] := List.eq_nil_of_length_eq_zero (by omega)
    subst hx
    have hr := run_append_nil (P := P) w t ty e i z ht hi hz ad 1 1 ys hl hu (by omega) (by omega) (by simp at hb1; omega)
    have hg := grown 0 [] rfl
    simp only [Nat.zero_add, List.nil_append, Array.empty_append] at hg ⊢
    exact ⟨_, _, _, hr, hg, .inr rfl, by simp, hkeep _⟩
  · by_cases hroom : n + 1 ≤ c
    · have hcn : (n + 1) * i.size ≤ c * i.size := Nat.mul_le_mul_right _ hroom
      have hn1 : (n + 1) * i.size = n * i.size + i.size := by rw [Nat.add_mul, Nat.one_mul]
      have hr := run_append_room_cells (P := P) w t ty e i ht hi g 0 n c ad 1 1 ys hl hu h1 hroom (by
        intro j hj
        have hlt' : 0 + n * i.size + j < cur.size := by omega
        rw [cell_of_heap hh, Array.getElem?_eq_getElem hlt']
        rfl) (by intro j hj; exact frozen_of_heap hh _)
      obtain ⟨cur', g1, g2, g3, g4⟩ := setCells_heap g ys (0 + n * i.size) w cur hh
      have hkp := setCells_keep (S := [g]) g ys (0 + n * i.size) w w (Keep.refl _ _) (.inl (by simp))
      refine ⟨g, c, _, hr, ⟨by simp [hxl, hys, hn1], .inr ⟨g, cur', rfl, rfl, g1, hroom, hcm, by rw [g2]; exact hcs, ?_⟩⟩, .inl (by simp), Nat.lt_of_lt_of_le (heap_lt hh) hkp.size, hkp⟩
      intro j v hv
      rw [List.getElem?_append] at hv
      split at hv
      · rename_i hj
        rw [g4 j (by omega)]
        exact hat j v hv
      · rename_i hj
        have h6 := (List.getElem?_eq_some_iff.1 hv).1
        have := g3 (j - xs.length) v hv (by omega)
        rwa [show 0 + n * i.size + (j - xs.length) = j from by omega] at this
    · have holds : ∀ j v, xs[j]? = some v → w.cell? ((⟨g, 0, none⟩ : Addr).add j) = some v := by
        intro j v hv
        rw [show (⟨g, 0, none⟩ : Addr).add j = ⟨g, j, none⟩ from by simp [Addr.add]; omega]
        exact (cell_of_heap hh _).trans (hat j v hv)
      have hr := run_append_grow (P := P) w t ty e i z ht hi hz ⟨g, 0, none⟩ n c xs hxl holds ad 1 1 ys hl hu (by omega) (by omega) (growslice_fits (by omega) hb1)
      exact ⟨_, _, _, hr, grown c xs rfl, .inr rfl, by simp, hkeep _⟩

theorem wp_append_S {o : Oper} {a : Act} {K : Act → World → Prop} {Q : Exit → Act → World → Prop} (s x : Operand) (t : TypeId)
    (ho : o.op = .call { callee := .builtin .append, args := #[s, x], argTypes := #[t, t] })
    (i : TypeInfo) (z : Value) (bytes : Nat) (ht : P.underlying t = some (.slice e)) (hi : P.info? e = some i) (hz : i.zero = some z)
    (hsize : i.size = size) (hs0 : 0 < size) (hby : i.bytes = bytes) (hzs : z.cells.size = size) (hs : a.eval s = .slice A n c) (ad : Addr) (hx : a.eval x = .slice (some ad) 1 1)
    (ys : List Value) (hown : OwnS w e size A n c xs fp) (hys : ys.length = size) (hu : ∀ j v, ys[j]? = some v → w.cell? (ad.add j) = some v) (h1 : ∀ u ∈ ys, u.oneCell' = true)
    (hn : n + 1 ≤ 1000000000000) (hbytes : bytes ≤ 100)
    (h : ∀ g c' w', OwnS w' e size (some ⟨g, 0, none⟩) (n + 1) c' (xs ++ ys) [g] → (g ∈ fp ∨ w.heap.size = g) → g < w'.heap.size → Keep fp w w' → K (a.put o.dst (.slice (some ⟨g, 0, none⟩) (n + 1) c')) w') : o.wp P a w K Q := by
  obtain ⟨g, c', w', hr, h2, h3, h4, h5⟩ := run_append_S (P := P) t o.type i z bytes ht hi hz hsize hs0 hby hzs hown ad hys hu h1 hn hbytes
  unfold Oper.wp execOp
  simp only [ho, resolve, invoke, builtin, Sem.run_bind, Sem.run_pure, Result.andThen_ok, List.map_toArray, List.map_cons, List.map_nil, hs, hx, hr]
  exact h g c' w' h2 h3 h4 h5

theorem wpList_append_S {ops : Array Oper} {rest : List Oper} {o : Oper} {a : Act} {Q : Exit → Act → World → Prop} (hgd : o.guard = none) (s x : Operand) (t : TypeId)
    (ho : o.op = .call { callee := .builtin .append, args := #[s, x], argTypes := #[t, t] })
    (i : TypeInfo) (z : Value) (bytes : Nat) (ht : P.underlying t = some (.slice e)) (hi : P.info? e = some i) (hz : i.zero = some z)
    (hsize : i.size = size) (hs0 : 0 < size) (hby : i.bytes = bytes) (hzs : z.cells.size = size) (hs : a.eval s = .slice A n c) (ad : Addr) (hx : a.eval x = .slice (some ad) 1 1)
    (ys : List Value) (hown : OwnS w e size A n c xs fp) (hys : ys.length = size) (hu : ∀ j v, ys[j]? = some v → w.cell? (ad.add j) = some v) (h1 : ∀ u ∈ ys, u.oneCell' = true)
    (hn : n + 1 ≤ 1000000000000) (hbytes : bytes ≤ 100)
    (h : ∀ g c' w', OwnS w' e size (some ⟨g, 0, none⟩) (n + 1) c' (xs ++ ys) [g] → (g ∈ fp ∨ w.heap.size = g) → g < w'.heap.size → Keep fp w w' → wpList P ops Q rest (a.put o.dst (.slice (some ⟨g, 0, none⟩) (n + 1) c')) w') : wpList P ops Q (o :: rest) a w :=
  wpList_plain hgd fun _ hK => wp_append_S s x t ho i z bytes ht hi hz hsize hs0 hby hzs hs ad hx ys hown hys hu h1 hn hbytes fun g c' w' h2 h3 h4 h5 => hK _ _ (h g c' w' h2 h3 h4 h5)

theorem step_append_S {ops : Array Oper} {o : Oper} {a : Act} {K : Act → World → Prop} {Q : Exit → Act → World → Prop} {E : Prop} (hgd : o.guard = none) (s x : Operand) (t : TypeId)
    (ho : o.op = .call { callee := .builtin .append, args := #[s, x], argTypes := #[t, t] })
    (i : TypeInfo) (z : Value) (bytes : Nat) (ht : P.underlying t = some (.slice e)) (hi : P.info? e = some i) (hz : i.zero = some z)
    (hsize : i.size = size) (hs0 : 0 < size) (hby : i.bytes = bytes) (hzs : z.cells.size = size) (hs : a.eval s = .slice A n c) (ad : Addr) (hx : a.eval x = .slice (some ad) 1 1)
    (ys : List Value) (hown : OwnS w e size A n c xs fp) (hys : ys.length = size) (hu : ∀ j v, ys[j]? = some v → w.cell? (ad.add j) = some v) (h1 : ∀ u ∈ ys, u.oneCell' = true)
    (hn : n + 1 ≤ 1000000000000) (hbytes : bytes ≤ 100)
    (h : ∀ g c' w', OwnS w' e size (some ⟨g, 0, none⟩) (n + 1) c' (xs ++ ys) [g] → (g ∈ fp ∨ w.heap.size = g) → g < w'.heap.size → Keep fp w w' → K (a.put o.dst (.slice (some ⟨g, 0, none⟩) (n + 1) c')) w') :
    if Region.wanted o (yielded ops a.tmps) = true then Oper.wp P o a w K Q else E := by
  have hw : Region.wanted o (yielded ops a.tmps) = true := by simp [Region.wanted, hgd]
  rw [if_pos hw]
  exact wp_append_S s x t ho i z bytes ht hi hz hsize hs0 hby hzs hs ad hx ys hown hys hu h1 hn hbytes h
end
end Go.Proofs.Ytfmhlnfcbbpfeaa
