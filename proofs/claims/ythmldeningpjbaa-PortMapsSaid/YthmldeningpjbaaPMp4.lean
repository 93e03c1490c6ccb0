/- append of a whole slice onto a slice of the call's own (elements of several cells), in place or not. No program is named here. -/
import Derived.Test.YthmldeningpjbaaPMp2
import Derived.Test.YthmldeningpjbaaPMp3
set_option linter.unusedVariables false
set_option linter.unusedSimpArgs false
namespace Go.Proofs.Ythmldeningpjbaa
open Go Go.RowKit

section
variable {w w' : World} {e : TypeId} {size : Nat} {A B : Option Addr} {n c m d : Nat} {xs ys : List Value} {fp : List Nat} {P : Program}
theorem Rd.add_n (h : Rd w size B m ys) {ad : Addr} (he : B = some ad) : ∀ j u, ys[j]? = some u → w.cell? (ad.add j) = some u := by
  intro j u hu
  have hl : 0 < m := by
    have h1 := (List.getElem?_eq_some_iff.1 hu).1
    have h2 := h.1
    rcases Nat.eq_zero_or_pos m with h3 | h3
    · subst h3; simp at h2; subst h2; simp at h1
    · exact h3
  obtain ⟨b, off, e1, _, hc⟩ := h.2 hl
  rw [he] at e1
  injection e1 with e1
  subst e1
  have := hc j u hu
  by_cases hj : j = 0
  · subst hj; simpa [Addr.add] using this
  · simpa [Addr.add, hj] using this

theorem run_append_M (t ty : TypeId) (i : TypeInfo) (z : Value) (bytes : Nat) (ht : P.underlying t = some (.slice e)) (hi : P.info? e = some i) (hz : i.zero = some z)
    (hsize : i.size = size) (hby : i.bytes = bytes) (hzs : z.cells.size = size) (hown : OwnS w e size A n c xs fp) (hr : Rd w size B m ys) (h1 : ∀ u ∈ ys, u.oneCell' = true)
    (hn : n + m ≤ 1000000000000) (hbytes : bytes ≤ 100) :
    ∃ A' c' w' fp', (Builtin.append_ #[t, t] ty #[.slice A n c, .slice B m d]).run P w = .ok (.slice A' (n + m) c') w' ∧
      OwnS w' e size A' (n + m) c' (xs ++ ys) fp' ∧ (∀ g ∈ fp', g ∈ fp ∨ w.heap.size = g) ∧ Keep fp w w' := by
  subst hby hsize
  have hym : ys.length = m * i.size := hr.1
  have hxl := hown.1
  rcases Nat.eq_zero_or_pos m with hm | hm
  · subst hm
    obtain rfl : ys = [] := List.eq_nil_of_length_eq_zero (by simpa using hym)
    refine ⟨A, c, w, fp, ?_, by simpa using hown, fun g hg => .inl hg, Keep.refl _ _⟩
    have hge := hown.ge
    have hfc : (Builtin.firstCells i.size 0 (.slice B 0 d)).run P w = .ok #[] w := by
      cases B with
      | none => simp [Builtin.firstCells]
      | some b => simp [Builtin.firstCells, loadCells, loadCellsFrom]
    cases A with
    | none => simp [Builtin.append_, run_underlying ht, sizeOf, typeInfo, hi, Builtin.lenOf, hge, hfc]
    | some a => simp [Builtin.append_, run_underlying ht, sizeOf, typeInfo, hi, Builtin.lenOf, hge, hfc, storeCells]
  · obtain ⟨b, off, rfl, hb, hc⟩ := hr.2 hm
    have hb1 : (n + m) * i.bytes ≤ 140737488355328 := Nat.le_trans (Nat.mul_le_mul hn hbytes) (by decide)
    have hnews := hr.add_n rfl
    have hmx : n + m ≤ maxLen := by simp only [maxLen]; omega
    have grown : ∀ (old : Nat) (olds : List Value), olds = xs →
        OwnS (w.drew.alloc (.cells (olds.toArray ++ ys.toArray ++ Builtin.zeroCells z.cells (grownCap w (n + m) old e - (n + m))) e)) e i.size (some ⟨w.heap.size, 0, none⟩) (n + m) (grownCap w (n + m) old e) (xs ++ ys) [w.heap.size] := by
      rintro old olds rfl
      have hge := grownCap_ge w (n + m) old e
      have hcm : grownCap w (n + m) old e ≤ maxLen := grownCap_le_maxLen w (n + m) old e hmx
      simp only [maxLen] at hcm
      refine ⟨by simp [hxl, hym, Nat.add_mul], .inr ⟨_, _, rfl, rfl, heap_alloc_new w.drew _, hge, hcm, ?_, ?_⟩⟩
      · simp only [Array.size_append, List.size_toArray, size_zeroCells, hzs, hxl, hym]
        generalize grownCap w (n + m) old e = G at hge ⊢
        obtain ⟨d, rfl⟩ : ∃ d, G = n + m + d := ⟨G - (n + m), by omega⟩
        rw [show n + m + d - (n + m) = d from by omega]
        simp only [Nat.add_mul]
      · intro j v hv
        have hlt : j < (olds ++ ys).length := (List.getElem?_eq_some_iff.1 hv).1
        rw [Array.getElem?_append_left (by simpa using hlt)]
        simpa using hv
    have hkeep : ∀ o : Obj, Keep fp w (w.drew.alloc o) := fun o => ((Keep.refl fp w).drew).alloc o
    rcases hown.2 with ⟨rfl, rfl, rfl, rfl⟩ | ⟨g, cur, rfl, rfl, hh, hnc, hcm, hcs, hat⟩
    · have hx : xs = [] := List.eq_nil_of_length_eq_zero (by omega)
      subst hx
      have hrn := run_append_nil (P := P) w t ty e i z ht hi hz ⟨b, off, none⟩ m d ys hym hnews hm (by omega) (by simp at hb1; omega)
      have hg := grown 0 [] rfl
      simp only [Nat.zero_add, List.nil_append, Array.empty_append] at hg ⊢
      exact ⟨_, _, _, _, hrn, hg, fun y hy => .inr (List.mem_singleton.1 hy).symm, hkeep _⟩
    · by_cases hroom : n + m ≤ c
      · have hcn : (n + m) * i.size ≤ c * i.size := Nat.mul_le_mul_right _ hroom
        have hn1 : (n + m) * i.size = n * i.size + m * i.size := Nat.add_mul _ _ _
        have hrn := run_append_room_cells (P := P) w t ty e i ht hi g 0 n c ⟨b, off, none⟩ m d ys hym hnews h1 hroom (by
          intro j hj
          have hlt' : 0 + n * i.size + j < cur.size := by omega
          rw [cell_of_heap hh, Array.getElem?_eq_getElem hlt']
          rfl) (fun j hj => frozen_of_heap hh _)
        obtain ⟨cur', g1, g2, g3, g4⟩ := setCells_heap g ys (0 + n * i.size) w cur hh
        refine ⟨some ⟨g, 0, none⟩, c, _, [g], hrn, ⟨by simp [hxl, hym, hn1], .inr ⟨g, cur', rfl, rfl, g1, hroom, hcm, by rw [g2]; exact hcs, ?_⟩⟩, fun y hy => .inl hy, setCells_keep g ys _ w w (Keep.refl _ _) (.inl (by simp))⟩
        intro j v hv
        rw [List.getElem?_append] at hv
        split at hv
        · rename_i hj
          rw [g4 j (by omega)]
          exact hat j v hv
        · rename_i hj
          have h6 := (List.getElem?_eq_some_iff.1 hv).1
          have := g3 (j - xs.length) v hv (by omega)
          rwa [show 0 + n * i.size + (j - xs.length) = j from by omega] at this
      · have holds : ∀ j v, xs[j]? = some v → w.cell? ((⟨g, 0, none⟩ : Addr).add j) = some v := by
          intro j v hv
          rw [show (⟨g, 0, none⟩ : Addr).add j = ⟨g, j, none⟩ from by simp [Addr.add]; omega]
          exact (cell_of_heap hh _).trans (hat j v hv)
        have hrn := run_append_grow (P := P) w t ty e i z ht hi hz ⟨g, 0, none⟩ n c xs hxl holds ⟨b, off, none⟩ m d ys hym hnews (by omega) (by omega) (growslice_fits (by omega) hb1)
        exact ⟨_, _, _, _, hrn, grown c xs rfl, fun y hy => .inr (List.mem_singleton.1 hy).symm, hkeep _⟩

theorem wp_append_M {o : Oper} {a : Act} {K : Act → World → Prop} {Q : Exit → Act → World → Prop} (s x : Operand) (t : TypeId)
    (ho : o.op = .call { callee := .builtin .append, args := #[s, x], argTypes := #[t, t] })
    (i : TypeInfo) (z : Value) (bytes : Nat) (ht : P.underlying t = some (.slice e)) (hi : P.info? e = some i) (hz : i.zero = some z)
    (hsize : i.size = size) (hby : i.bytes = bytes) (hzs : z.cells.size = size) (hs : a.eval s = .slice A n c) (hx : a.eval x = .slice B m d)
    (hown : OwnS w e size A n c xs fp) (hr : Rd w size B m ys) (h1 : ∀ u ∈ ys, u.oneCell' = true)
    (hn : n + m ≤ 1000000000000) (hbytes : bytes ≤ 100)
    (h : ∀ A' c' w' fp', OwnS w' e size A' (n + m) c' (xs ++ ys) fp' → (∀ g ∈ fp', g ∈ fp ∨ w.heap.size = g) → Keep fp w w' → K (a.put o.dst (.slice A' (n + m) c')) w') : o.wp P a w K Q := by
  obtain ⟨A', c', w', fp', hrn, h2, h3, h4⟩ := run_append_M (P := P) (d := d) t o.type i z bytes ht hi hz hsize hby hzs hown hr h1 hn hbytes
  unfold Oper.wp execOp
  simp only [ho, resolve, invoke, builtin, Sem.run_bind, Sem.run_pure, Result.andThen_ok, List.map_toArray, List.map_cons, List.map_nil, hs, hx, hrn]
  exact h A' c' w' fp' h2 h3 h4

theorem wpList_append_M {ops : Array Oper} {rest : List Oper} {o : Oper} {a : Act} {Q : Exit → Act → World → Prop} (hgd : o.guard = none) (s x : Operand) (t : TypeId)
    (ho : o.op = .call { callee := .builtin .append, args := #[s, x], argTypes := #[t, t] })
    (i : TypeInfo) (z : Value) (bytes : Nat) (ht : P.underlying t = some (.slice e)) (hi : P.info? e = some i) (hz : i.zero = some z)
    (hsize : i.size = size) (hby : i.bytes = bytes) (hzs : z.cells.size = size) (hs : a.eval s = .slice A n c) (hx : a.eval x = .slice B m d)
    (hown : OwnS w e size A n c xs fp) (hr : Rd w size B m ys) (h1 : ∀ u ∈ ys, u.oneCell' = true)
    (hn : n + m ≤ 1000000000000) (hbytes : bytes ≤ 100)
    (h : ∀ A' c' w' fp', OwnS w' e size A' (n + m) c' (xs ++ ys) fp' → (∀ g ∈ fp', g ∈ fp ∨ w.heap.size = g) → Keep fp w w' → wpList P ops Q rest (a.put o.dst (.slice A' (n + m) c')) w') : wpList P ops Q (o :: rest) a w :=
  wpList_plain hgd fun _ hK => wp_append_M s x t ho i z bytes ht hi hz hsize hby hzs hs hx hown hr h1 hn hbytes fun A' c' w' fp' h2 h3 h4 => hK _ _ (h A' c' w' fp' h2 h3 h4)
end
/-- what slices.Clone answers -/
def CloneS (w : World) (e : TypeId) (size n : Nat) (xs : List Value) (r : Ending) (w' : World) : Prop :=
  ∃ A c q, r = .returned (.slice A n c) ∧ OwnS w' e size A n c xs q ∧ (∀ g ∈ q, w.heap.size ≤ g) ∧ Below w.heap.size w w'
end Go.Proofs.Ythmldeningpjbaa
/- slices.Clone at slices of structs (printed by wip/tools/clone.py) -/
namespace Go.Proofs.Ythmldeningpjbaa
open Go Go.RowKit Sp
set_option linter.unusedVariables false

theorem infoPtI : (Try.prog.info? 3).map (fun i => (i.zero, i.size, i.bytes)) = some (some (.int .i64 0), 1, 8) := by kernel_rfl
set_option maxRecDepth 100000 in
set_option maxHeartbeats 1000000 in
theorem clonePtI_any (A : Option Addr) (n c : Nat) (xs : List Value) (w : World) (hr : Rd w 1 A n xs) (h1 : ∀ u ∈ xs, u.oneCell' = true) (hc : A = none → n = 0 ∧ c = 0) (hl : n ≤ 100000000) :
    Calls Try.prog 82 #[.slice A n c] w (CloneS w 3 1 n xs) := by
  obtain ⟨i0, hi, hz0, hz1, hz2⟩ := info_parts infoPtI
  have hnil := fun (w : World) (a : Option Addr) (n c : Nat) => Lib.run_eql_slice_nil (P := Try.prog) w 33 3 a n c 0 0 Try.underlying33
  cases A with
  | none =>
    obtain ⟨rfl, rfl⟩ := hc rfl
    obtain rfl : xs = [] := List.eq_nil_of_length_eq_zero (by have := hr.1; omega)
    go_enter Try.func82, Try.ntmps82
    go_wp2_with fail
    go_ret
    exact ⟨none, 0, [], rfl, OwnS.nil _ _ _, by simp, Below.refl _ _⟩
  | some ad =>
    have HR := Lib.hid (And.intro hr h1)
    clear hr hc h1
    go_enter Try.func82, Try.ntmps82
    go_wp2_with (at_builtin
                 refine wpList_append_M rfl (.tmp 5) (.tmp 6) 33 rfl i0 _ 8 Try.underlying33 hi hz0 hz1 hz2 rfl (A := some ⟨w.heap.size, 0, none⟩) (n := 0) (c := 0) (B := some ad) (m := n) (d := c) (xs := []) (fp := [w.heap.size]) (ys := xs) (by simp [Act.eval]) (by simp [Act.eval]) ⟨by simp, .inr ⟨_, _, rfl, rfl, heap_alloc_new w _, by omega, by omega, rfl, by simp⟩⟩ (HR.out.1.below ((Below.refl _ _).alloc (Nat.le_refl _) _)) HR.out.2 (by omega) (by omega) ?_
                 intro A' c' w' fp' h1 h2 h3
                 have HQ := Lib.hid (And.intro h1 (And.intro h2 h3))
                 clear h1 h2 h3)
    go_ret
    obtain ⟨h1, h2, h3⟩ := HQ.out
    refine ⟨A', c', fp', by simp, by simpa using h1, fun g hg => ?_, ((Below.refl w.heap.size w).alloc (Nat.le_refl _) _).trans (h3.below (by simp) (by simp))⟩
    rcases h2 g hg with h | h
    · simp at h; omega
    · simp at h; omega

theorem infoPtB : (Try.prog.info? 4).map (fun i => (i.zero, i.size, i.bytes)) = some (some (.bool false), 1, 1) := by kernel_rfl
set_option maxRecDepth 100000 in
set_option maxHeartbeats 1000000 in
theorem clonePtB_any (A : Option Addr) (n c : Nat) (xs : List Value) (w : World) (hr : Rd w 1 A n xs) (h1 : ∀ u ∈ xs, u.oneCell' = true) (hc : A = none → n = 0 ∧ c = 0) (hl : n ≤ 100000000) :
    Calls Try.prog 122 #[.slice A n c] w (CloneS w 4 1 n xs) := by
  obtain ⟨i0, hi, hz0, hz1, hz2⟩ := info_parts infoPtB
  have hnil := fun (w : World) (a : Option Addr) (n c : Nat) => Lib.run_eql_slice_nil (P := Try.prog) w 40 4 a n c 0 0 Try.underlying40
  cases A with
  | none =>
    obtain ⟨rfl, rfl⟩ := hc rfl
    obtain rfl : xs = [] := List.eq_nil_of_length_eq_zero (by have := hr.1; omega)
    go_enter Try.func122, Try.ntmps122
    go_wp2_with fail
    go_ret
    exact ⟨none, 0, [], rfl, OwnS.nil _ _ _, by simp, Below.refl _ _⟩
  | some ad =>
    have HR := Lib.hid (And.intro hr h1)
    clear hr hc h1
    go_enter Try.func122, Try.ntmps122
    go_wp2_with (at_builtin
                 refine wpList_append_M rfl (.tmp 5) (.tmp 6) 40 rfl i0 _ 1 Try.underlying40 hi hz0 hz1 hz2 rfl (A := some ⟨w.heap.size, 0, none⟩) (n := 0) (c := 0) (B := some ad) (m := n) (d := c) (xs := []) (fp := [w.heap.size]) (ys := xs) (by simp [Act.eval]) (by simp [Act.eval]) ⟨by simp, .inr ⟨_, _, rfl, rfl, heap_alloc_new w _, by omega, by omega, rfl, by simp⟩⟩ (HR.out.1.below ((Below.refl _ _).alloc (Nat.le_refl _) _)) HR.out.2 (by omega) (by omega) ?_
                 intro A' c' w' fp' h1 h2 h3
                 have HQ := Lib.hid (And.intro h1 (And.intro h2 h3))
                 clear h1 h2 h3)
    go_ret
    obtain ⟨h1, h2, h3⟩ := HQ.out
    refine ⟨A', c', fp', by simp, by simpa using h1, fun g hg => ?_, ((Below.refl w.heap.size w).alloc (Nat.le_refl _) _).trans (h3.below (by simp) (by simp))⟩
    rcases h2 g hg with h | h
    · simp at h; omega
    · simp at h; omega

theorem infoChn : (Try.prog.info? 144).map (fun i => (i.zero, i.size, i.bytes)) = some (some (.agg #[.int .i64 0, .int .i64 0, .int .i64 0]), 3, 24) := by kernel_rfl
set_option maxRecDepth 100000 in
set_option maxHeartbeats 1000000 in
theorem cloneChn_any (A : Option Addr) (n c : Nat) (xs : List Value) (w : World) (hr : Rd w 3 A n xs) (h1 : ∀ u ∈ xs, u.oneCell' = true) (hc : A = none → n = 0 ∧ c = 0) (hl : n ≤ 100000000) :
    Calls Try.prog 85 #[.slice A n c] w (CloneS w 144 3 n xs) := by
  obtain ⟨i0, hi, hz0, hz1, hz2⟩ := info_parts infoChn
  have hnil := fun (w : World) (a : Option Addr) (n c : Nat) => Lib.run_eql_slice_nil (P := Try.prog) w 23 144 a n c 0 0 Try.underlying23
  cases A with
  | none =>
    obtain ⟨rfl, rfl⟩ := hc rfl
    obtain rfl : xs = [] := List.eq_nil_of_length_eq_zero (by have := hr.1; omega)
    go_enter Try.func85, Try.ntmps85
    go_wp2_with fail
    go_ret
    exact ⟨none, 0, [], rfl, OwnS.nil _ _ _, by simp, Below.refl _ _⟩
  | some ad =>
    have HR := Lib.hid (And.intro hr h1)
    clear hr hc h1
    go_enter Try.func85, Try.ntmps85
    go_wp2_with (at_builtin
                 refine wpList_append_M rfl (.tmp 5) (.tmp 6) 23 rfl i0 _ 24 Try.underlying23 hi hz0 hz1 hz2 rfl (A := some ⟨w.heap.size, 0, none⟩) (n := 0) (c := 0) (B := some ad) (m := n) (d := c) (xs := []) (fp := [w.heap.size]) (ys := xs) (by simp [Act.eval]) (by simp [Act.eval]) ⟨by simp, .inr ⟨_, _, rfl, rfl, heap_alloc_new w _, by omega, by omega, rfl, by simp⟩⟩ (HR.out.1.below ((Below.refl _ _).alloc (Nat.le_refl _) _)) HR.out.2 (by omega) (by omega) ?_
                 intro A' c' w' fp' h1 h2 h3
                 have HQ := Lib.hid (And.intro h1 (And.intro h2 h3))
                 clear h1 h2 h3)
    go_ret
    obtain ⟨h1, h2, h3⟩ := HQ.out
    refine ⟨A', c', fp', by simp, by simpa using h1, fun g hg => ?_, ((Below.refl w.heap.size w).alloc (Nat.le_refl _) _).trans (h3.below (by simp) (by simp))⟩
    rcases h2 g hg with h | h
    · simp at h; omega
    · simp at h; omega

theorem infoBrt : (Try.prog.info? 53).map (fun i => (i.zero, i.size, i.bytes)) = some (some (.agg #[.int .i64 0, .slice none 0 0]), 2, 32) := by kernel_rfl
set_option maxRecDepth 100000 in
set_option maxHeartbeats 1000000 in
theorem cloneBrt_any (A : Option Addr) (n c : Nat) (xs : List Value) (w : World) (hr : Rd w 2 A n xs) (h1 : ∀ u ∈ xs, u.oneCell' = true) (hc : A = none → n = 0 ∧ c = 0) (hl : n ≤ 100000000) :
    Calls Try.prog 86 #[.slice A n c] w (CloneS w 53 2 n xs) := by
  obtain ⟨i0, hi, hz0, hz1, hz2⟩ := info_parts infoBrt
  have hnil := fun (w : World) (a : Option Addr) (n c : Nat) => Lib.run_eql_slice_nil (P := Try.prog) w 24 53 a n c 0 0 Try.underlying24
  cases A with
  | none =>
    obtain ⟨rfl, rfl⟩ := hc rfl
    obtain rfl : xs = [] := List.eq_nil_of_length_eq_zero (by have := hr.1; omega)
    go_enter Try.func86, Try.ntmps86
    go_wp2_with fail
    go_ret
    exact ⟨none, 0, [], rfl, OwnS.nil _ _ _, by simp, Below.refl _ _⟩
  | some ad =>
    have HR := Lib.hid (And.intro hr h1)
    clear hr hc h1
    go_enter Try.func86, Try.ntmps86
    go_wp2_with (at_builtin
                 refine wpList_append_M rfl (.tmp 5) (.tmp 6) 24 rfl i0 _ 32 Try.underlying24 hi hz0 hz1 hz2 rfl (A := some ⟨w.heap.size, 0, none⟩) (n := 0) (c := 0) (B := some ad) (m := n) (d := c) (xs := []) (fp := [w.heap.size]) (ys := xs) (by simp [Act.eval]) (by simp [Act.eval]) ⟨by simp, .inr ⟨_, _, rfl, rfl, heap_alloc_new w _, by omega, by omega, rfl, by simp⟩⟩ (HR.out.1.below ((Below.refl _ _).alloc (Nat.le_refl _) _)) HR.out.2 (by omega) (by omega) ?_
                 intro A' c' w' fp' h1 h2 h3
                 have HQ := Lib.hid (And.intro h1 (And.intro h2 h3))
                 clear h1 h2 h3)
    go_ret
    obtain ⟨h1, h2, h3⟩ := HQ.out
    refine ⟨A', c', fp', by simp, by simpa using h1, fun g hg => ?_, ((Below.refl w.heap.size w).alloc (Nat.le_refl _) _).trans (h3.below (by simp) (by simp))⟩
    rcases h2 g hg with h | h
    · simp at h; omega
    · simp at h; omega

theorem infoCal : (Try.prog.info? 55).map (fun i => (i.zero, i.size, i.bytes)) = some (some (.agg #[.int .i64 0, .int .i64 0, .bool false, .int .i64 0, .int .i64 0, .int .i64 0]), 6, 48) := by kernel_rfl
set_option maxRecDepth 100000 in
set_option maxHeartbeats 1000000 in
theorem cloneCal_any (A : Option Addr) (n c : Nat) (xs : List Value) (w : World) (hr : Rd w 6 A n xs) (h1 : ∀ u ∈ xs, u.oneCell' = true) (hc : A = none → n = 0 ∧ c = 0) (hl : n ≤ 100000000) :
    Calls Try.prog 89 #[.slice A n c] w (CloneS w 55 6 n xs) := by
  obtain ⟨i0, hi, hz0, hz1, hz2⟩ := info_parts infoCal
  have hnil := fun (w : World) (a : Option Addr) (n c : Nat) => Lib.run_eql_slice_nil (P := Try.prog) w 28 55 a n c 0 0 Try.underlying28
  cases A with
  | none =>
    obtain ⟨rfl, rfl⟩ := hc rfl
    obtain rfl : xs = [] := List.eq_nil_of_length_eq_zero (by have := hr.1; omega)
    go_enter Try.func89, Try.ntmps89
    go_wp2_with fail
    go_ret
    exact ⟨none, 0, [], rfl, OwnS.nil _ _ _, by simp, Below.refl _ _⟩
  | some ad =>
    have HR := Lib.hid (And.intro hr h1)
    clear hr hc h1
    go_enter Try.func89, Try.ntmps89
    go_wp2_with (at_builtin
                 refine wpList_append_M rfl (.tmp 5) (.tmp 6) 28 rfl i0 _ 48 Try.underlying28 hi hz0 hz1 hz2 rfl (A := some ⟨w.heap.size, 0, none⟩) (n := 0) (c := 0) (B := some ad) (m := n) (d := c) (xs := []) (fp := [w.heap.size]) (ys := xs) (by simp [Act.eval]) (by simp [Act.eval]) ⟨by simp, .inr ⟨_, _, rfl, rfl, heap_alloc_new w _, by omega, by omega, rfl, by simp⟩⟩ (HR.out.1.below ((Below.refl _ _).alloc (Nat.le_refl _) _)) HR.out.2 (by omega) (by omega) ?_
                 intro A' c' w' fp' h1 h2 h3
                 have HQ := Lib.hid (And.intro h1 (And.intro h2 h3))
                 clear h1 h2 h3)
    go_ret
    obtain ⟨h1, h2, h3⟩ := HQ.out
    refine ⟨A', c', fp', by simp, by simpa using h1, fun g hg => ?_, ((Below.refl w.heap.size w).alloc (Nat.le_refl _) _).trans (h3.below (by simp) (by simp))⟩
    rcases h2 g hg with h | h
    · simp at h; omega
    · simp at h; omega

theorem infoSwp : (Try.prog.info? 126).map (fun i => (i.zero, i.size, i.bytes)) = some (some (.agg #[.int .i64 0, .int .i64 0, .int .i64 0]), 3, 24) := by kernel_rfl
set_option maxRecDepth 100000 in
set_option maxHeartbeats 1000000 in
theorem cloneSwp_any (A : Option Addr) (n c : Nat) (xs : List Value) (w : World) (hr : Rd w 3 A n xs) (h1 : ∀ u ∈ xs, u.oneCell' = true) (hc : A = none → n = 0 ∧ c = 0) (hl : n ≤ 100000000) :
    Calls Try.prog 90 #[.slice A n c] w (CloneS w 126 3 n xs) := by
  obtain ⟨i0, hi, hz0, hz1, hz2⟩ := info_parts infoSwp
  have hnil := fun (w : World) (a : Option Addr) (n c : Nat) => Lib.run_eql_slice_nil (P := Try.prog) w 29 126 a n c 0 0 Try.underlying29
  cases A with
  | none =>
    obtain ⟨rfl, rfl⟩ := hc rfl
    obtain rfl : xs = [] := List.eq_nil_of_length_eq_zero (by have := hr.1; omega)
    go_enter Try.func90, Try.ntmps90
    go_wp2_with fail
    go_ret
    exact ⟨none, 0, [], rfl, OwnS.nil _ _ _, by simp, Below.refl _ _⟩
  | some ad =>
    have HR := Lib.hid (And.intro hr h1)
    clear hr hc h1
    go_enter Try.func90, Try.ntmps90
    go_wp2_with (at_builtin
                 refine wpList_append_M rfl (.tmp 5) (.tmp 6) 29 rfl i0 _ 24 Try.underlying29 hi hz0 hz1 hz2 rfl (A := some ⟨w.heap.size, 0, none⟩) (n := 0) (c := 0) (B := some ad) (m := n) (d := c) (xs := []) (fp := [w.heap.size]) (ys := xs) (by simp [Act.eval]) (by simp [Act.eval]) ⟨by simp, .inr ⟨_, _, rfl, rfl, heap_alloc_new w _, by omega, by omega, rfl, by simp⟩⟩ (HR.out.1.below ((Below.refl _ _).alloc (Nat.le_refl _) _)) HR.out.2 (by omega) (by omega) ?_
                 intro A' c' w' fp' h1 h2 h3
                 have HQ := Lib.hid (And.intro h1 (And.intro h2 h3))
                 clear h1 h2 h3)
    go_ret
    obtain ⟨h1, h2, h3⟩ := HQ.out
    refine ⟨A', c', fp', by simp, by simpa using h1, fun g hg => ?_, ((Below.refl w.heap.size w).alloc (Nat.le_refl _) _).trans (h3.below (by simp) (by simp))⟩
    rcases h2 g hg with h | h
    · simp at h; omega
    · simp at h; omega

theorem infoPlc : (Try.prog.info? 109).map (fun i => (i.zero, i.size, i.bytes)) = some (some (.agg #[.int .i64 0, .int .i64 0]), 2, 16) := by kernel_rfl
set_option maxRecDepth 100000 in
set_option maxHeartbeats 1000000 in
theorem clonePlc_any (A : Option Addr) (n c : Nat) (xs : List Value) (w : World) (hr : Rd w 2 A n xs) (h1 : ∀ u ∈ xs, u.oneCell' = true) (hc : A = none → n = 0 ∧ c = 0) (hl : n ≤ 100000000) :
    Calls Try.prog 132 #[.slice A n c] w (CloneS w 109 2 n xs) := by
  obtain ⟨i0, hi, hz0, hz1, hz2⟩ := info_parts infoPlc
  have hnil := fun (w : World) (a : Option Addr) (n c : Nat) => Lib.run_eql_slice_nil (P := Try.prog) w 103 109 a n c 0 0 Try.underlying103
  cases A with
  | none =>
    obtain ⟨rfl, rfl⟩ := hc rfl
    obtain rfl : xs = [] := List.eq_nil_of_length_eq_zero (by have := hr.1; omega)
    go_enter Try.func132, Try.ntmps132
    go_wp2_with fail
    go_ret
    exact ⟨none, 0, [], rfl, OwnS.nil _ _ _, by simp, Below.refl _ _⟩
  | some ad =>
    have HR := Lib.hid (And.intro hr h1)
    clear hr hc h1
    go_enter Try.func132, Try.ntmps132
    go_wp2_with (at_builtin
                 refine wpList_append_M rfl (.tmp 5) (.tmp 6) 103 rfl i0 _ 16 Try.underlying103 hi hz0 hz1 hz2 rfl (A := some ⟨w.heap.size, 0, none⟩) (n := 0) (c := 0) (B := some ad) (m := n) (d := c) (xs := []) (fp := [w.heap.size]) (ys := xs) (by simp [Act.eval]) (by simp [Act.eval]) ⟨by simp, .inr ⟨_, _, rfl, rfl, heap_alloc_new w _, by omega, by omega, rfl, by simp⟩⟩ (HR.out.1.below ((Below.refl _ _).alloc (Nat.le_refl _) _)) HR.out.2 (by omega) (by omega) ?_
                 intro A' c' w' fp' h1 h2 h3
                 have HQ := Lib.hid (And.intro h1 (And.intro h2 h3))
                 clear h1 h2 h3)
    go_ret
    obtain ⟨h1, h2, h3⟩ := HQ.out
    refine ⟨A', c', fp', by simp, by simpa using h1, fun g hg => ?_, ((Below.refl w.heap.size w).alloc (Nat.le_refl _) _).trans (h3.below (by simp) (by simp))⟩
    rcases h2 g hg with h | h
    · simp at h; omega
    · simp at h; omega
end Go.Proofs.Ythmldeningpjbaa
/- What a walk owns: a list of things in memory, each in blocks of its own. -/
namespace Go.Proofs.Ythmldeningpjbaa
open Go Go.RowKit Sp
set_option linter.unusedVariables false

inductive It where
  | blk (b : Nat) (o : Obj)
  | own (e : TypeId) (sz : Nat) (A : Option Addr) (n c : Nat) (xs : List Value) (q : List Nat)
  | nx (ib lb : Nat)
  | any (b : Nat)
  | gen (q : List Nat) (P : World → Prop)
def It.fp : It → List Nat
  | .blk b _ => [b]
  | .own _ _ _ _ _ _ q => q
  | .nx ib lb => [ib, lb]
  | .any b => [b]
  | .gen q _ => q
def It.holds (D : Nat) (w : World) : It → Prop
  | .blk b o => w.heap[b]? = some o
  | .own e sz A n c xs q => OwnS w e sz A n c xs q
  | .nx ib lb => NxS D w ib lb
  | .any b => b < w.heap.size
  | .gen q P => (∀ x ∈ q, x < w.heap.size) ∧ ∀ (S : List Nat) (w' : World), Keep S w w' → (∀ x ∈ S, x ∉ q) → P w'
theorem It.lt {D : Nat} {w : World} {i : It} (h : i.holds D w) : ∀ x ∈ i.fp, x < w.heap.size := by
  intro x hx
  cases i with
  | blk b o => rw [List.mem_singleton.1 hx]; exact heap_lt h
  | own e sz A n c xs q => exact OwnS.lt h x hx
  | nx ib lb =>
    have := NxS.lt h
    simp only [It.fp, List.mem_cons, List.not_mem_nil, or_false] at hx
    rcases hx with rfl | rfl <;> omega
  | any b => rw [List.mem_singleton.1 hx]; exact h
  | gen q P => exact h.1 x hx
theorem It.keep {D : Nat} {w w' : World} {i : It} {S : List Nat} (h : i.holds D w) (hk : Keep S w w') (hS : ∀ x ∈ i.fp, x ∉ S) (hD : ∀ x ∈ S, D ≤ x) : i.holds D w' := by
  cases i with
  | blk b o => exact (hk.block _ (heap_lt h) (hS b (by simp [It.fp]))).trans h
  | own e sz A n c xs q => exact OwnS.keepS h hk hS
  | nx ib lb => exact NxS.keep h hk fun x hx => ⟨hD x hx, fun e => hS ib (by simp [It.fp]) (e ▸ hx), fun e => hS lb (by simp [It.fp]) (e ▸ hx)⟩
  | any b => exact Nat.lt_of_lt_of_le h hk.size
  | gen q P =>
    refine ⟨fun x hx => Nat.lt_of_lt_of_le (h.1 x hx) hk.size, fun S' w'' hk' hS' => h.2 (S ++ S') w'' ?_ ?_⟩
    · exact (hk.mono (fun x hx => .inl (by simp [hx]))).trans hk' (fun x hx => .inl (by simp [hx]))
    · intro x hx hm
      rcases List.mem_append.1 hx with e | e
      · exact hS x hm e
      · exact hS' x e hm

structure Own (D : Nat) (W0 : World) (L : List It) (w : World) : Prop where
  bel : Below D W0 w
  lo : D ≤ w.heap.size
  at_ : ∀ (a : Nat) (i : It), L[a]? = some i → i.holds D w ∧ ∀ x ∈ i.fp, D ≤ x
  dis : ∀ (a b : Nat) (i j : It), L[a]? = some i → L[b]? = some j → a ≠ b → ∀ x ∈ i.fp, x ∉ j.fp
section
variable {D : Nat} {W0 w w' : World} {L : List It}
theorem Own.get (h : Own D W0 L w) (a : Nat) {i : It} (hi : L[a]? = some i) : i.holds D w := (h.at_ a i hi).1
theorem Own.heap (h : Own D W0 L w) (a : Nat) {b : Nat} {o : Obj} (hi : L[a]? = some (.blk b o)) : w.heap[b]? = some o := (h.at_ a _ hi).1
theorem Own.owns (h : Own D W0 L w) (a : Nat) {e : TypeId} {sz : Nat} {A : Option Addr} {n c : Nat} {xs : List Value} {q : List Nat} (hi : L[a]? = some (.own e sz A n c xs q)) : OwnS w e sz A n c xs q := (h.at_ a _ hi).1
theorem Own.nxt (h : Own D W0 L w) (a : Nat) {ib lb : Nat} (hi : L[a]? = some (.nx ib lb)) : NxS D w ib lb := (h.at_ a _ hi).1
theorem Own.ge (h : Own D W0 L w) (a : Nat) {i : It} (hi : L[a]? = some i) {x : Nat} (hx : x ∈ i.fp) : D ≤ x := (h.at_ a i hi).2 x hx
theorem Own.lt (h : Own D W0 L w) (a : Nat) {i : It} (hi : L[a]? = some i) {x : Nat} (hx : x ∈ i.fp) : x < w.heap.size := It.lt (h.get a hi) x hx
theorem Own.ne (h : Own D W0 L w) (a b : Nat) {i j : It} (hi : L[a]? = some i) (hj : L[b]? = some j) (hab : a ≠ b) {x y : Nat} (hx : x ∈ i.fp) (hy : y ∈ j.fp) : x ≠ y := fun e => h.dis a b i j hi hj hab x hx (e ▸ hy)
theorem Own.start (w : World) : Own w.heap.size w [] w := ⟨Below.refl _ _, Nat.le_refl _, by simp, by simp⟩
/-- what changes: the things at the places c; new blocks are taken by one of them each -/
theorem Own.updG (h : Own D W0 L w) (L' : List It) (c : Nat → Prop) {S : List Nat} (hk : Keep S w w') (hS : ∀ x ∈ S, (∃ a i, c a ∧ L[a]? = some i ∧ x ∈ i.fp) ∨ w.heap.size ≤ x)
    (hun : ∀ a j, L'[a]? = some j → c a ∨ L[a]? = some j) (hch : ∀ a j, L'[a]? = some j → c a → j.holds D w' ∧ ∀ x ∈ j.fp, (∃ i, L[a]? = some i ∧ x ∈ i.fp) ∨ w.heap.size ≤ x)
    (hfd : ∀ a b i j, L'[a]? = some i → L'[b]? = some j → a ≠ b → c a → c b → ∀ x ∈ i.fp, x ∈ j.fp → w.heap.size ≤ x → False) : Own D W0 L' w' := by
  have hSD : ∀ x ∈ S, D ≤ x := fun x hx => by
    rcases hS x hx with ⟨a, i, _, h2, h3⟩ | h1
    · exact h.ge a h2 h3
    · have := h.lo; omega
  have key : ∀ a j, L'[a]? = some j → ∀ x ∈ j.fp, (∃ i, L[a]? = some i ∧ x ∈ i.fp) ∨ (c a ∧ w.heap.size ≤ x) := fun a j hj x hx => by
    rcases hun a j hj with h1 | h1
    · rcases (hch a j hj h1).2 x hx with e | e
      · exact .inl e
      · exact .inr ⟨h1, e⟩
    · exact .inl ⟨j, h1, hx⟩
  refine ⟨h.bel.trans (hk.below h.lo hSD), Nat.le_trans h.lo hk.size, fun a j hj => ⟨?_, fun x hx => ?_⟩, fun a b i j hi hj hab x hx hy => ?_⟩
  · by_cases hc : c a
    · exact (hch a j hj hc).1
    · have h1 : L[a]? = some j := (hun a j hj).resolve_left hc
      refine It.keep (h.get a h1) hk (fun x hx hm => ?_) hSD
      rcases hS x hm with ⟨b, i, h2, h3, h4⟩ | h2
      · exact h.dis a b j i h1 h3 (fun e => hc (e ▸ h2)) x hx h4
      · have := h.lt a h1 hx; omega
  · rcases key a j hj x hx with ⟨i, h1, h2⟩ | ⟨_, h2⟩
    · exact h.ge a h1 h2
    · have := h.lo; omega
  · rcases key a i hi x hx with ⟨i', h1, h2⟩ | ⟨h1, h2⟩
    · rcases key b j hj x hy with ⟨j', h3, h4⟩ | ⟨h3, h4⟩
      · exact h.dis a b i' j' h1 h3 hab x h2 h4
      · have := h.lt a h1 h2; omega
    · rcases key b j hj x hy with ⟨j', h3, h4⟩ | ⟨h3, h4⟩
      · have := h.lt b h3 h4; omega
      · exact hfd a b i j hi hj hab h1 h3 x hx hy h2
/-- as updG; only the thing at f may take a new block -/
theorem Own.updF (h : Own D W0 L w) (L' : List It) (c : Nat → Prop) (f : Nat) {S : List Nat} (hk : Keep S w w') (hS : ∀ x ∈ S, (∃ a i, c a ∧ L[a]? = some i ∧ x ∈ i.fp) ∨ w.heap.size ≤ x)
    (hun : ∀ a j, L'[a]? = some j → c a ∨ L[a]? = some j) (hch : ∀ a j, L'[a]? = some j → c a → j.holds D w' ∧ ∀ x ∈ j.fp, (∃ i, L[a]? = some i ∧ x ∈ i.fp) ∨ (a = f ∧ w.heap.size ≤ x)) : Own D W0 L' w' := by
  refine h.updG L' c hk hS hun (fun a j hj hc => ⟨(hch a j hj hc).1, fun x hx => ?_⟩) (fun a b i j hi hj hab ha hb x hx hy hz => ?_)
  · rcases (hch a j hj hc).2 x hx with e | e
    · exact .inl e
    · exact .inr e.2
  · have h1 : a = f := by
      rcases (hch a i hi ha).2 x hx with ⟨i', e1, e2⟩ | e
      · have := h.lt a e1 e2; omega
      · exact e.1
    have h2 : b = f := by
      rcases (hch b j hj hb).2 x hy with ⟨i', e1, e2⟩ | e
      · have := h.lt b e1 e2; omega
      · exact e.1
    omega
theorem Own.below (h : Own D W0 L w) (hb : Below w.heap.size w w') : Own D W0 L w' :=
  h.updF L (fun _ => False) 0 (S := []) (Keep.of_below hb) (by simp) (fun a j hj => .inr hj) (fun _ _ _ h => h.elim)
/-- new blocks are changed, and nothing else -/
theorem Own.fresh (h : Own D W0 L w) {S : List Nat} (hk : Keep S w w') (hS : ∀ x ∈ S, w.heap.size ≤ x) : Own D W0 L w' :=
  h.updF L (fun _ => False) 0 hk (fun x hx => .inr (hS x hx)) (fun a j hj => .inr hj) (fun _ _ _ h => h.elim)
theorem Own.upd (h : Own D W0 L w) (k : Nat) {i i' : It} (hi : L[k]? = some i) (hk : Keep i.fp w w') (hh : i'.holds D w') (hf : ∀ x ∈ i'.fp, x ∈ i.fp ∨ w.heap.size ≤ x) : Own D W0 (L.set k i') w' := by
  refine h.updF _ (fun a => a = k) k hk (fun x hx => .inl ⟨k, i, rfl, hi, hx⟩) (fun a j hj => ?_) (fun a j hj hc => ?_)
  · rw [List.getElem?_set] at hj
    by_cases e : k = a
    · exact .inl e.symm
    · rw [if_neg e] at hj; exact .inr hj
  · subst hc
    have hlt : a < L.length := (List.getElem?_eq_some_iff.1 hi).1
    rw [List.getElem?_set, if_pos rfl, if_pos hlt] at hj
    injection hj with hj
    subst hj
    exact ⟨hh, fun x hx => by rcases hf x hx with e | e; exact .inl ⟨i, hi, e⟩; exact .inr ⟨rfl, e⟩⟩
/-- as upd, where the thing changed is there all along, but other blocks are changed too: new ones -/
theorem Own.upd' (h : Own D W0 L w) (k : Nat) {i i' : It} (hi : L[k]? = some i) {S : List Nat} (hk : Keep S w w') (hS : ∀ x ∈ S, x ∈ i.fp ∨ w.heap.size ≤ x) (hh : i'.holds D w') (hf : ∀ x ∈ i'.fp, x ∈ i.fp ∨ w.heap.size ≤ x) : Own D W0 (L.set k i') w' := by
  refine h.upd k hi (hk.mono fun x hx => ?_) hh hf
  rcases hS x hx with e | e
  · exact .inl e
  · exact .inr e
theorem Own.set (h : Own D W0 L w) (k : Nat) {b : Nat} {o o' : Obj} (hi : L[k]? = some (.blk b o)) (hk : Keep [b] w w') (hh : w'.heap[b]? = some o') : Own D W0 (L.set k (.blk b o')) w' :=
  h.upd k hi hk hh (fun x hx => .inl hx)
theorem Own.next (h : Own D W0 L w) (k : Nat) {ib lb : Nat} (hi : L[k]? = some (.nx ib lb)) (hn : NxS D w' ib lb) (hk : Keep [ib] w w') : Own D W0 L w' := by
  have h1 := h.upd k hi (hk.mono (S' := [ib, lb]) (fun x hx => .inl (by simp at hx; simp [hx]))) (i' := .nx ib lb) hn (fun x hx => .inl hx)
  have e : L.set k (.nx ib lb) = L := by
    have hlt : k < L.length := (List.getElem?_eq_some_iff.1 hi).1
    apply List.ext_getElem?
    intro a
    rw [List.getElem?_set]
    by_cases e : k = a
    · subst e; rw [if_pos rfl, if_pos hlt, hi]
    · rw [if_neg e]
  rwa [e] at h1
theorem Own.new (h : Own D W0 L w) {i : It} (hb : Below w.heap.size w w') (hh : i.holds D w') (hf : ∀ x ∈ i.fp, w.heap.size ≤ x) : Own D W0 (L ++ [i]) w' := by
  have h' := h.below hb
  have hget : ∀ {a : Nat} {j : It}, (L ++ [i])[a]? = some j → L[a]? = some j ∨ (a = L.length ∧ j = i) := fun {a j} hj => by
    rw [List.getElem?_append] at hj
    split at hj
    · exact .inl hj
    · rename_i hl
      have : a - L.length = 0 := by
        rcases Nat.lt_or_ge 0 (a - L.length) with e | e
        · rw [List.getElem?_eq_none (by simp; omega)] at hj; cases hj
        · omega
      rw [this] at hj
      injection hj with hj
      exact .inr ⟨by omega, hj.symm⟩
  refine ⟨h'.bel, h'.lo, fun a j hj => ?_, fun a b x y hx hy hab z hz hz' => ?_⟩
  · rcases hget hj with e | ⟨_, rfl⟩
    · exact h'.at_ a j e
    · exact ⟨hh, fun x hx => by have := hf x hx; have := h.lo; omega⟩
  · rcases hget hx with e1 | ⟨e1, rfl⟩
    · rcases hget hy with e2 | ⟨e2, rfl⟩
      · exact h.dis a b x y e1 e2 hab z hz hz'
      · have := h.lt a e1 hz; have := hf z hz'; omega
    · rcases hget hy with e2 | ⟨e2, rfl⟩
      · have := h.lt b e2 hz'; have := hf z hz; omega
      · omega
/-- a thing more, that was there -/
theorem Own.add (h : Own D W0 L w) {i : It} (hh : i.holds D w) (hD : ∀ x ∈ i.fp, D ≤ x) (hd : ∀ j ∈ L, ∀ x ∈ i.fp, x ∉ j.fp) : Own D W0 (L ++ [i]) w := by
  have hget : ∀ {a : Nat} {j : It}, (L ++ [i])[a]? = some j → L[a]? = some j ∨ (a = L.length ∧ j = i) := fun {a j} hj => by
    rw [List.getElem?_append] at hj
    split at hj
    · exact .inl hj
    · rename_i hl
      have h2 := (List.getElem?_eq_some_iff.1 hj).1
      simp at h2
      have : a - L.length = 0 := by omega
      rw [this] at hj
      injection hj with hj
      exact .inr ⟨by omega, hj.symm⟩
  refine ⟨h.bel, h.lo, fun a j hj => ?_, fun a b x y hx hy hab z hz hz' => ?_⟩
  · rcases hget hj with e | ⟨_, rfl⟩
    · exact h.at_ a j e
    · exact ⟨hh, hD⟩
  · rcases hget hx with e1 | ⟨e1, rfl⟩
    · rcases hget hy with e2 | ⟨e2, rfl⟩
      · exact h.dis a b x y e1 e2 hab z hz hz'
      · exact hd x (List.mem_of_getElem? e1) z hz' hz
    · rcases hget hy with e2 | ⟨e2, rfl⟩
      · exact hd y (List.mem_of_getElem? e2) z hz hz'
      · omega
theorem Own.nil (hD : D ≤ w.heap.size) : Own D w [] w := ⟨Below.refl _ _, hD, by simp, by simp⟩
/-- blocks of which nothing is said are changed -/
theorem Own.keepAny (h : Own D W0 L w) {S : List Nat} (hk : Keep S w w') (hS : ∀ x ∈ S, (∃ a : Nat, L[a]? = some (It.any x)) ∨ w.heap.size ≤ x) : Own D W0 L w' := by
  refine h.updG L (fun a : Nat => ∃ x, L[a]? = some (It.any x)) hk (fun x hx => ?_) (fun a j hj => .inr hj) (fun a j hj hc => ?_) (fun a b i j hi hj hab ha hb x hx hy hz => ?_)
  · rcases hS x hx with ⟨a, e⟩ | e
    · exact .inl ⟨a, _, ⟨x, e⟩, e, by simp [It.fp]⟩
    · exact .inr e
  · obtain ⟨x, e⟩ := hc
    rw [hj] at e
    injection e with e
    subst e
    exact ⟨Nat.lt_of_lt_of_le (h.get a hj) hk.size, fun y hy => .inl ⟨_, hj, hy⟩⟩
  · exact h.dis a b i j hi hj hab x hx hy
/-- numbers are drawn, and a new thing is made -/
theorem Own.nextNew (h : Own D W0 L w) (k : Nat) {ib lb : Nat} {i : It} (hi : L[k]? = some (.nx ib lb)) (hn : NxS D w' ib lb) (hk : Keep [ib] w w') (hh : i.holds D w') (hf : ∀ x ∈ i.fp, w.heap.size ≤ x) : Own D W0 (L ++ [i]) w' := by
  have hkl : k < L.length := (List.getElem?_eq_some_iff.1 hi).1
  refine h.updF _ (fun a => a = k ∨ a = L.length) L.length hk (fun x hx => .inl ⟨k, _, .inl rfl, hi, by simp at hx; simp [It.fp, hx]⟩) (fun a j hj => ?_) (fun a j hj hc => ?_)
  · rw [List.getElem?_append] at hj
    split at hj
    · exact .inr hj
    · refine .inl (.inr ?_)
      have h2 := (List.getElem?_eq_some_iff.1 hj).1
      simp at h2
      omega
  · rcases hc with rfl | rfl
    · rw [List.getElem?_append_left hkl, hi] at hj
      injection hj with hj
      subst hj
      exact ⟨hn, fun x hx => .inl ⟨_, hi, hx⟩⟩
    · rw [List.getElem?_append_right (Nat.le_refl _), Nat.sub_self] at hj
      injection hj with hj
      subst hj
      exact ⟨hh, fun x hx => .inr ⟨rfl, hf x hx⟩⟩
theorem Own.alloc (h : Own D W0 L w) (o : Obj) : Own D W0 (L ++ [.blk w.heap.size o]) (w.alloc o) :=
  h.new ((Below.refl _ _).alloc (Nat.le_refl _) _) (heap_alloc_new w o) (by simp [It.fp])
theorem Own.drew (h : Own D W0 L w) : Own D W0 L w.drew := h.updF L (fun _ => False) 0 (S := []) ((Keep.refl _ _).drew) (by simp) (fun a j hj => .inr hj) (fun _ _ _ h => h.elim)
/-- some of the things -/
theorem Own.take (h : Own D W0 L w) (n : Nat) : Own D W0 (L.take n) w := by
  have hg : ∀ {a : Nat} {j : It}, (L.take n)[a]? = some j → L[a]? = some j := fun {a j} hj => by
    rw [List.getElem?_take] at hj
    split at hj
    · exact hj
    · cases hj
  exact ⟨h.bel, h.lo, fun a j hj => h.at_ a j (hg hj), fun a b i j hi hj => h.dis a b i j (hg hi) (hg hj)⟩
/-- drawing, and one list in a struct's field: the state at the beginning -/
theorem Own.draws (h : Own D W0 L w) (kn : Nat) {ib lb : Nat} (hn : L[kn]? = some (.nx ib lb)) :
    ∃ A0 c0 l0 k0, DrawSt w ib lb A0 c0 l0 k0 ∧ Bytes l0 ∧ l0.length ≤ 9223372036854775806 ∧ ib ≠ lb ∧ (0 < l0.length → ∀ b off, A0 = some ⟨b, off, none⟩ → b < D) := by
  obtain ⟨A, c, l, k, h1, h2, h3, h4, h5, h6, h7⟩ := h.nxt kn hn
  exact ⟨A, c, l, k, h1, h2, h3, h4, h7⟩
theorem Own.apOk (h : Own D W0 L w) (kn kb ko : Nat) {C : ApC} (hn : L[kn]? = some (.nx C.ib C.lb)) (hb : L[kb]? = some (.blk C.ob (.cells C.old C.t (0, 0)))) (ho : L[ko]? = some (.own C.e C.sz C.A C.k C.c C.xs C.q))
    (hnb : kn ≠ kb) (hno : kn ≠ ko) (hbo : kb ≠ ko) (hdr : DrawSt w C.ib C.lb C.A0 C.c0 C.l0 C.k0) (hby : Bytes C.l0) (hln : C.l0.length ≤ 9223372036854775806) (hne : C.ib ≠ C.lb) (hap : 0 < C.l0.length → ∀ b off, C.A0 = some ⟨b, off, none⟩ → b < D) : ApOk C w := by
  refine ⟨hdr, h.owns ko ho, h.heap kb hb, fun hm => h.dis kb ko _ _ hb ho hbo _ (by simp [It.fp]) hm, h.ne kb kn hb hn hnb.symm (by simp [It.fp]) (by simp [It.fp]), h.ne kb kn hb hn hnb.symm (by simp [It.fp]) (by simp [It.fp]),
    fun hm => h.dis kn ko _ _ hn ho hno C.ib (by simp [It.fp]) hm, fun hm => h.dis kn ko _ _ hn ho hno C.lb (by simp [It.fp]) hm, hne, fun h0 b off e => ?_, hby, hln⟩
  have hD := hap h0 b off e
  have h1 := h.ge kn hn (x := C.ib) (by simp [It.fp])
  have h2 := h.ge kb hb (x := C.ob) (by simp [It.fp])
  exact ⟨by omega, by omega, fun hm => by have := h.ge ko ho (x := b) hm; omega⟩
theorem Own.apDone (h : Own D W0 L w) (kn kb ko : Nat) {C : ApC} (hn : L[kn]? = some (.nx C.ib C.lb)) (hb : L[kb]? = some (.blk C.ob (.cells C.old C.t (0, 0)))) (ho : L[ko]? = some (.own C.e C.sz C.A C.k C.c C.xs C.q))
    (hnb : kn ≠ kb) (hno : kn ≠ ko) (hbo : kb ≠ ko) (hap : 0 < C.l0.length → ∀ b off, C.A0 = some ⟨b, off, none⟩ → b < D) (O : ApOk C w) {opB opA opS : Nat} {cnt : (Nat → Bool) → Nat} {s : ApS} {l : Nat → Bool} (H : ApW C opB opA opS cnt w s l w') (hA : l opA = true) (hS : l opS = true) :
    Own D W0 ((L.set kb (.blk C.ob (.cells (C.new s.A s.c) C.t (0, 0)))).set ko (.own C.e C.sz s.A (C.k + 1) s.c (C.xs ++ C.ys) [s.g])) w' := by
  have hkb : kb < L.length := (List.getElem?_eq_some_iff.1 hb).1
  have hko : ko < L.length := (List.getElem?_eq_some_iff.1 ho).1
  obtain ⟨o1, o2⟩ := H.own1 hA
  have hob := H.hob
  rw [hS, if_pos rfl] at hob
  have hnx : NxS D w' C.ib C.lb := ⟨C.A0, C.c0, C.l0, _, H.dr, O.byt, O.len, O.ne, h.ge kn hn (by simp [It.fp]), h.ge kn hn (by simp [It.fp]), hap⟩
  have hget : ∀ {a : Nat} {j : It}, ((L.set kb (.blk C.ob (.cells (C.new s.A s.c) C.t (0, 0)))).set ko (.own C.e C.sz s.A (C.k + 1) s.c (C.xs ++ C.ys) [s.g]))[a]? = some j →
      (a = ko ∧ j = .own C.e C.sz s.A (C.k + 1) s.c (C.xs ++ C.ys) [s.g]) ∨ (a ≠ ko ∧ a = kb ∧ j = .blk C.ob (.cells (C.new s.A s.c) C.t (0, 0))) ∨ (a ≠ ko ∧ a ≠ kb ∧ L[a]? = some j) := fun {a j} hj => by
    rw [List.getElem?_set] at hj
    by_cases e : ko = a
    · rw [if_pos e, if_pos (by simpa using hko)] at hj
      injection hj with hj
      exact .inl ⟨e.symm, hj.symm⟩
    · rw [if_neg e, List.getElem?_set] at hj
      by_cases e2 : kb = a
      · rw [if_pos e2, if_pos hkb] at hj
        injection hj with hj
        exact .inr (.inl ⟨fun q => e q.symm, e2.symm, hj.symm⟩)
      · rw [if_neg e2] at hj
        exact .inr (.inr ⟨fun q => e q.symm, fun q => e2 q.symm, hj⟩)
  refine h.updF _ (fun a => a = kn ∨ a = kb ∨ a = ko) ko H.kp (fun x hx => .inl ?_) (fun a j hj => ?_) (fun a j hj hc => ?_)
  · rcases List.mem_cons.1 hx with rfl | hx
    · exact ⟨kn, _, .inl rfl, hn, by simp [It.fp]⟩
    · rcases List.mem_cons.1 hx with rfl | hx
      · exact ⟨kb, _, .inr (.inl rfl), hb, by simp [It.fp]⟩
      · exact ⟨ko, _, .inr (.inr rfl), ho, hx⟩
  · rcases hget hj with ⟨e, _⟩ | ⟨_, e, _⟩ | ⟨_, _, e⟩
    · exact .inl (.inr (.inr e))
    · exact .inl (.inr (.inl e))
    · exact .inr e
  · rcases hget hj with ⟨e, rfl⟩ | ⟨_, e, rfl⟩ | ⟨e1, e2, e⟩
    · refine ⟨o1, fun x hx => ?_⟩
      rw [List.mem_singleton.1 hx]
      rcases o2 with q | q
      · exact .inl ⟨.own C.e C.sz C.A C.k C.c C.xs C.q, by rw [e]; exact ho, q⟩
      · exact .inr ⟨e, q⟩
    · exact ⟨hob, fun x hx => .inl ⟨.blk C.ob (.cells C.old C.t (0, 0)), by rw [e]; exact hb, hx⟩⟩
    · rcases hc with rfl | rfl | rfl
      · rw [hn] at e
        injection e with e
        subst e
        exact ⟨hnx, fun x hx => .inl ⟨_, hn, hx⟩⟩
      · exact absurd rfl e2
      · exact absurd rfl e1
end
end Go.Proofs.Ythmldeningpjbaa
