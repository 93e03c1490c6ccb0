/- slices of the call's own whose elements have several cells; append of one element. No program is named here. -/
import Derived.Test.YtfmhlnfcbbpfeaaRBp4
import Derived.Test.YtfmhlnfcbbpfeaaRBp7
import Derived.RangeFuncNested
import Derived.RangeFuncBound
import Derived.RangeFuncCalls
import Derived.RangeFuncLeaves
import Derived.Shelf.Abstract
import Derived.Shelf.RegionOpen
import Derived.OwnWalkIn
import Derived.TacticsInMore
import Derived.LoopNIn
import Derived.LoopIn
import Derived.Sort.CutIn
set_option linter.unusedVariables false
namespace Go.Proofs.Ytfmhlnfcbbpfeaa
open Go Go.RowKit

/-- A slice value (A, n, c) of elements of size cells, nil or in a block of its own. -/
def OwnS (w : World) (e : TypeId) (size : Nat) (A : Option Addr) (n c : Nat) (xs : List Value) (fp : List Nat) : Prop :=
  xs.length = n * size ∧ ((A = none ∧ n = 0 ∧ c = 0 ∧ fp = []) ∨
    ∃ (g : Nat) (cur : Array Value), A = some ⟨g, 0, none⟩ ∧ fp = [g] ∧ w.heap[g]? = some (.cells cur e (0, 0)) ∧ n ≤ c ∧ c ≤ 9223372036854775807 ∧ c * size = cur.size ∧ ∀ (j : Nat) (u : Value), xs[j]? = some u → cur[j]? = some u)

section
variable {w w' : World} {e : TypeId} {size : Nat} {A : Option Addr} {n c : Nat} {xs ys : List Value} {fp : List Nat} {P : Program}
theorem OwnS.nil (w : World) (e : TypeId) (size : Nat) : OwnS w e size none 0 0 [] [] := ⟨by simp, .inl ⟨rfl, rfl, rfl, rfl⟩⟩
theorem OwnS.lt (h : OwnS w e size A n c xs fp) : ∀ g ∈ fp, g < w.heap.size := by
  intro g hg
  rcases h.2 with ⟨_, _, _, rfl⟩ | ⟨g', cur, rfl, rfl, hh, _⟩
  · simp at hg
  · obtain rfl : g = g' := by simpa using hg
    exact heap_lt hh
theorem OwnS.ge (h : OwnS w e size A n c xs fp) : n ≤ c := by
  rcases h.2 with ⟨_, rfl, rfl, _⟩ | ⟨g', cur, rfl, rfl, hh, h1, _⟩ <;> omega
theorem OwnS.cap (h : OwnS w e size A n c xs fp) : c ≤ 9223372036854775807 := by
  rcases h.2 with ⟨_, _, rfl, _⟩ | ⟨g, cur, _, _, _, _, h, _⟩
  · omega
  · exact h
theorem OwnS.keepS {S : List Nat} (h : OwnS w e size A n c xs fp) (hk : Keep S w w') (hd : ∀ g ∈ fp, g ∉ S) : OwnS w' e size A n c xs fp := by
  refine ⟨h.1, ?_⟩
  rcases h.2 with h0 | ⟨g, cur, rfl, rfl, hh, r⟩
  · exact .inl h0
  · exact .inr ⟨g, cur, rfl, rfl, (hk.block g (heap_lt hh) (hd g (by simp))).trans hh, r⟩
theorem OwnS.alloc (h : OwnS w e size A n c xs fp) (o : Obj) : OwnS (w.alloc o) e size A n c xs fp := h.keepS ((Keep.refl [] w).alloc o) (by simp)
theorem OwnS.drewN (h : OwnS w e size A n c xs fp) (k : Nat) : OwnS (w.drewN k) e size A n c xs fp := h
theorem OwnS.setCell {p : Addr} (h : OwnS w e size A n c xs fp) (hp : p.block ∉ fp) (u : Value) : OwnS (w.setCell p u) e size A n c xs fp :=
  h.keepS ((Keep.refl [p.block] w).setCell (.inl (by simp)) u) (by simp; rintro g hg rfl; exact hp hg)
theorem OwnS.some_ (h : OwnS w e size A n c xs fp) (hn : 0 < n) : ∃ g, A = some ⟨g, 0, none⟩ ∧ fp = [g] ∧ g < w.heap.size ∧ (∀ j u, xs[j]? = some u → w.cell? ⟨g, j, none⟩ = some u) ∧ (∀ j, w.frozen? ⟨g, j, none⟩ = false) := by
  rcases h.2 with ⟨_, h0, _⟩ | ⟨g, cur, rfl, rfl, hh, h1, h2, h3, h4⟩
  · omega
  · exact ⟨g, rfl, rfl, heap_lt hh, fun j u hu => (cell_of_heap hh _).trans (h4 j u hu), fun j => frozen_of_heap hh j⟩
theorem OwnS.rd (h : OwnS w e size A n c xs fp) : Rd w size A n xs := by
  refine ⟨h.1, fun hn => ?_⟩
  obtain ⟨g, e, _, hl, hc, _⟩ := h.some_ hn
  exact ⟨g, 0, e, hl, fun j u hu => by rw [Nat.zero_add]; exact hc j u hu⟩
theorem OwnS.set_ {g : Nat} (h : OwnS w e size (some ⟨g, 0, none⟩) n c xs fp) (k : Nat) (u : Value) : OwnS (w.setCell ⟨g, k, none⟩ u) e size (some ⟨g, 0, none⟩) n c (xs.set k u) fp := by
  refine ⟨by rw [List.length_set, h.1], .inr ?_⟩
  rcases h.2 with ⟨h0, _⟩ | ⟨g', cur, he, rfl, hh, h1, h2, h3, h4⟩
  · cases h0
  · injection he with he
    injection he with e1 _ _
    subst e1
    refine ⟨g, cur.setIfInBounds k u, rfl, rfl, heap_set hh _ _, h1, h2, by simpa using h3, fun j v hv => ?_⟩
    rw [List.getElem?_set] at hv
    by_cases hjk : k = j
    · subst hjk
      rw [if_pos rfl] at hv
      split at hv
      · rename_i hk
        injection hv with e1
        subst e1
        have := (List.getElem?_eq_some_iff.1 (List.getElem?_eq_getElem hk)).1
        have hc := h4 k _ (List.getElem?_eq_getElem hk)
        have hcl := (Array.getElem?_eq_some_iff.1 hc).1
        rw [Array.getElem?_setIfInBounds_self_of_lt hcl]
      · cases hv
    · rw [if_neg hjk] at hv
      rw [Array.getElem?_setIfInBounds_ne (by omega)]
      exact h4 j v hv

theorem run_append_S (t ty : TypeId) (i : TypeInfo) (z : Value) (bytes : Nat) (ht : P.underlying t = some (.slice e)) (hi : P.info? e = some i) (hz : i.zero = some z)
    (hsize : i.size = size) (hs0 : 0 < size) (hby : i.bytes = bytes) (hzs : z.cells.size = size) (hown : OwnS w e size A n c xs fp) (ad : Addr) (hys : ys.length = size) (hu : ∀ j v, ys[j]? = some v → w.cell? (ad.add j) = some v) (h1 : ∀ u ∈ ys, u.oneCell' = true)
    (hn : n + 1 ≤ 1000000000000) (hbytes : bytes ≤ 100) :
    ∃ g c' w', (Builtin.append_ #[t, t] ty #[.slice A n c, .slice (some ad) 1 1]).run P w = .ok (.slice (some ⟨g, 0, none⟩) (n + 1) c') w' ∧
      OwnS w' e size (some ⟨g, 0, none⟩) (n + 1) c' (xs ++ ys) [g] ∧ (g ∈ fp ∨ w.heap.size = g) ∧ g < w'.heap.size ∧ Keep fp w w' := by
  subst hby hsize
  have hb1 : (n + 1) * i.bytes ≤ 140737488355328 := Nat.le_trans (Nat.mul_le_mul hn hbytes) (by decide)
  have hl : ys.length = 1 * i.size := by omega
  have hmx : n + 1 ≤ maxLen := by simp only [maxLen]; omega
  have hxl := hown.1
  have grown : ∀ (old : Nat) (olds : List Value), olds = xs →
      OwnS (w.drew.alloc (.cells (olds.toArray ++ ys.toArray ++ Builtin.zeroCells z.cells (grownCap w (n + 1) old e - (n + 1))) e)) e i.size (some ⟨w.heap.size, 0, none⟩) (n + 1) (grownCap w (n + 1) old e) (xs ++ ys) [w.heap.size] := by
    rintro old olds rfl
    have hge := grownCap_ge w (n + 1) old e
    have hcm : grownCap w (n + 1) old e ≤ maxLen := grownCap_le_maxLen w (n + 1) old e hmx
    simp only [maxLen] at hcm
    refine ⟨by simp [hxl, hys, Nat.add_mul], .inr ⟨_, _, rfl, rfl, heap_alloc_new w.drew _, hge, hcm, ?_, ?_⟩⟩
    · simp only [Array.size_append, List.size_toArray, size_zeroCells, hzs, hxl, hys]
      generalize grownCap w (n + 1) old e = G at hge ⊢
      obtain ⟨d, rfl⟩ : ∃ d, G = n + 1 + d := ⟨G - (n + 1), by omega⟩
      rw [show n + 1 + d - (n + 1) = d from by omega]
      simp only [Nat.add_mul, Nat.one_mul]
    · intro j v hv
      have hlt : j < (olds ++ ys).length := (List.getElem?_eq_some_iff.1 hv).1
      rw [Array.getElem?_append_left (by simpa using hlt)]
      simpa using hv
  have hkeep : ∀ o : Obj, Keep fp w (w.drew.alloc o) := fun o => ((Keep.refl fp w).drew).alloc o
  rcases hown.2 with ⟨rfl, rfl, rfl, rfl⟩ | ⟨g, cur, rfl, rfl, hh, hnc, hcm, hcs, hat⟩
  · have hx : xs = [] := List.eq_nil_of_length_eq_zero (by omega)
    subst hx
    have hr := run_append_nil (P := P) w t ty e i z ht hi hz ad 1 1 ys hl hu (by omega) (by omega) (by simp at hb1; omega)
    have hg := grown 0 [] rfl
    simp only [Nat.zero_add, List.nil_append, Array.empty_append] at hg ⊢
    exact ⟨_, _, _, hr, hg, .inr rfl, by simp, hkeep _⟩
  · by_cases hroom : n + 1 ≤ c
    · have hcn : (n + 1) * i.size ≤ c * i.size := Nat.mul_le_mul_right _ hroom
      have hn1 : (n + 1) * i.size = n * i.size + i.size := by rw [Nat.add_mul, Nat.one_mul]
      have hr := run_append_room_cells (P := P) w t ty e i ht hi g 0 n c ad 1 1 ys hl hu h1 hroom (by
        intro j hj
        have hlt' : 0 + n * i.size + j < cur.size := by omega
        rw [cell_of_heap hh, Array.getElem?_eq_getElem hlt']
        rfl) (by intro j hj; exact frozen_of_heap hh _)
      obtain ⟨cur', g1, g2, g3, g4⟩ := setCells_heap g ys (0 + n * i.size) w cur hh
      have hkp := setCells_keep (S := [g]) g ys (0 + n * i.size) w w (Keep.refl _ _) (.inl (by simp))
      refine ⟨g, c, _, hr, ⟨by simp [hxl, hys, hn1], .inr ⟨g, cur', rfl, rfl, g1, hroom, hcm, by rw [g2]; exact hcs, ?_⟩⟩, .inl (by simp), Nat.lt_of_lt_of_le (heap_lt hh) hkp.size, hkp⟩
      intro j v hv
      rw [List.getElem?_append] at hv
      split at hv
      · rename_i hj
        rw [g4 j (by omega)]
        exact hat j v hv
      · rename_i hj
        have h6 := (List.getElem?_eq_some_iff.1 hv).1
        have := g3 (j - xs.length) v hv (by omega)
        rwa [show 0 + n * i.size + (j - xs.length) = j from by omega] at this
    · have holds : ∀ j v, xs[j]? = some v → w.cell? ((⟨g, 0, none⟩ : Addr).add j) = some v := by
        intro j v hv
        rw [show (⟨g, 0, none⟩ : Addr).add j = ⟨g, j, none⟩ from by simp [Addr.add]; omega]
        exact (cell_of_heap hh _).trans (hat j v hv)
      have hr := run_append_grow (P := P) w t ty e i z ht hi hz ⟨g, 0, none⟩ n c xs hxl holds ad 1 1 ys hl hu (by omega) (by omega) (growslice_fits (by omega) hb1)
      exact ⟨_, _, _, hr, grown c xs rfl, .inr rfl, by simp, hkeep _⟩

theorem wp_append_S {o : Oper} {a : Act} {K : Act → World → Prop} {Q : Exit → Act → World → Prop} (s x : Operand) (t : TypeId)
    (ho : o.op = .call { callee := .builtin .append, args := #[s, x], argTypes := #[t, t] })
    (i : TypeInfo) (z : Value) (bytes : Nat) (ht : P.underlying t = some (.slice e)) (hi : P.info? e = some i) (hz : i.zero = some z)
    (hsize : i.size = size) (hs0 : 0 < size) (hby : i.bytes = bytes) (hzs : z.cells.size = size) (hs : a.eval s = .slice A n c) (ad : Addr) (hx : a.eval x = .slice (some ad) 1 1)
    (ys : List Value) (hown : OwnS w e size A n c xs fp) (hys : ys.length = size) (hu : ∀ j v, ys[j]? = some v → w.cell? (ad.add j) = some v) (h1 : ∀ u ∈ ys, u.oneCell' = true)
    (hn : n + 1 ≤ 1000000000000) (hbytes : bytes ≤ 100)
    (h : ∀ g c' w', OwnS w' e size (some ⟨g, 0, none⟩) (n + 1) c' (xs ++ ys) [g] → (g ∈ fp ∨ w.heap.size = g) → g < w'.heap.size → Keep fp w w' → K (a.put o.dst (.slice (some ⟨g, 0, none⟩) (n + 1) c')) w') : o.wp P a w K Q := by
  obtain ⟨g, c', w', hr, h2, h3, h4, h5⟩ := run_append_S (P := P) t o.type i z bytes ht hi hz hsize hs0 hby hzs hown ad hys hu h1 hn hbytes
  unfold Oper.wp execOp
  simp only [ho, resolve, invoke, builtin, Sem.run_bind, Sem.run_pure, Result.andThen_ok, List.map_toArray, List.map_cons, List.map_nil, hs, hx, hr]
  exact h g c' w' h2 h3 h4 h5

theorem wpList_append_S {ops : Array Oper} {rest : List Oper} {o : Oper} {a : Act} {Q : Exit → Act → World → Prop} (hgd : o.guard = none) (s x : Operand) (t : TypeId)
    (ho : o.op = .call { callee := .builtin .append, args := #[s, x], argTypes := #[t, t] })
    (i : TypeInfo) (z : Value) (bytes : Nat) (ht : P.underlying t = some (.slice e)) (hi : P.info? e = some i) (hz : i.zero = some z)
    (hsize : i.size = size) (hs0 : 0 < size) (hby : i.bytes = bytes) (hzs : z.cells.size = size) (hs : a.eval s = .slice A n c) (ad : Addr) (hx : a.eval x = .slice (some ad) 1 1)
    (ys : List Value) (hown : OwnS w e size A n c xs fp) (hys : ys.length = size) (hu : ∀ j v, ys[j]? = some v → w.cell? (ad.add j) = some v) (h1 : ∀ u ∈ ys, u.oneCell' = true)
    (hn : n + 1 ≤ 1000000000000) (hbytes : bytes ≤ 100)
    (h : ∀ g c' w', OwnS w' e size (some ⟨g, 0, none⟩) (n + 1) c' (xs ++ ys) [g] → (g ∈ fp ∨ w.heap.size = g) → g < w'.heap.size → Keep fp w w' → wpList P ops Q rest (a.put o.dst (.slice (some ⟨g, 0, none⟩) (n + 1) c')) w') : wpList P ops Q (o :: rest) a w :=
  wpList_plain hgd fun _ hK => wp_append_S s x t ho i z bytes ht hi hz hsize hs0 hby hzs hs ad hx ys hown hys hu h1 hn hbytes fun g c' w' h2 h3 h4 h5 => hK _ _ (h g c' w' h2 h3 h4 h5)

theorem step_append_S {ops : Array Oper} {o : Oper} {a : Act} {K : Act → World → Prop} {Q : Exit → Act → World → Prop} {E : Prop} (hgd : o.guard = none) (s x : Operand) (t : TypeId)
    (ho : o.op = .call { callee := .builtin .append, args := #[s, x], argTypes := #[t, t] })
    (i : TypeInfo) (z : Value) (bytes : Nat) (ht : P.underlying t = some (.slice e)) (hi : P.info? e = some i) (hz : i.zero = some z)
    (hsize : i.size = size) (hs0 : 0 < size) (hby : i.bytes = bytes) (hzs : z.cells.size = size) (hs : a.eval s = .slice A n c) (ad : Addr) (hx : a.eval x = .slice (some ad) 1 1)
    (ys : List Value) (hown : OwnS w e size A n c xs fp) (hys : ys.length = size) (hu : ∀ j v, ys[j]? = some v → w.cell? (ad.add j) = some v) (h1 : ∀ u ∈ ys, u.oneCell' = true)
    (hn : n + 1 ≤ 1000000000000) (hbytes : bytes ≤ 100)
    (h : ∀ g c' w', OwnS w' e size (some ⟨g, 0, none⟩) (n + 1) c' (xs ++ ys) [g] → (g ∈ fp ∨ w.heap.size = g) → g < w'.heap.size → Keep fp w w' → K (a.put o.dst (.slice (some ⟨g, 0, none⟩) (n + 1) c')) w') :
    if Region.wanted o (yielded ops a.tmps) = true then Oper.wp P o a w K Q else E := by
  have hw : Region.wanted o (yielded ops a.tmps) = true := by simp [Region.wanted, hgd]
  rw [if_pos hw]
  exact wp_append_S s x t ho i z bytes ht hi hz hsize hs0 hby hzs hs ad hx ys hown hys hu h1 hn hbytes h
end
end Go.Proofs.Ytfmhlnfcbbpfeaa
/- restrict.Windows: its closure -/
namespace Go.Proofs.Ytfmhlnfcbbpfeaa
open Go Go.RowKit Sp

def spc (s : Int × Int) : List Value := [.int .i64 s.1, .int .i64 s.2]
def spcs (l : List (Int × Int)) : List Value := l.flatMap spc
theorem spcs_length (l : List (Int × Int)) : (spcs l).length = l.length * 2 := by
  induction l with
  | nil => rfl
  | cons s l ih => simp only [spcs, List.flatMap_cons, List.length_append, List.length_cons] at ih ⊢; rw [ih]; simp [spc]; omega
theorem spcs_append (l m : List (Int × Int)) : spcs (l ++ m) = spcs l ++ spcs m := by simp [spcs]
theorem spcs_get {l : List (Int × Int)} {k : Nat} (hk : k < l.length) : (spcs l)[k*2]? = some (.int .i64 l[k].1) ∧ (spcs l)[k*2+1]? = some (.int .i64 l[k].2) := by
  induction l generalizing k with
  | nil => simp at hk
  | cons s l ih =>
    cases k with
    | zero => simp [spcs, spc]
    | succ k =>
      have h4 : ∀ j, (spcs (s :: l))[2 + j]? = (spcs l)[j]? := fun j => by
        simp only [spcs, List.flatMap_cons, spc]
        rw [List.getElem?_append_right (by simp)]
        simp
      have e : ∀ j, (k+1)*2 + j = 2 + (k*2 + j) := fun j => by omega
      have e0 : (k+1)*2 = 2 + k*2 := by omega
      have hk' : k < l.length := by simpa using hk
      rw [e, e0, h4, h4]
      simpa using ih hk'

/-- a window that begins, or goes on, on the day -/
def joinS (L : List (Int × Int)) (day : Int) : List (Int × Int) :=
  match L.getLast? with
  | some s => if s.2 = day - 1 then L.dropLast ++ [(s.1, day)] else L ++ [(day, day)]
  | none => [(day, day)]

/-- the cell cb holds the windows L -/
def SpansIn (w : World) (cb : Nat) (L : List (Int × Int)) (fp : List Nat) : Prop :=
  ∃ A c, w.heap[cb]? = some (.cells #[.slice A L.length c] 61 (0, 0)) ∧ OwnS w 42 2 A L.length c (spcs L) fp ∧ cb ∉ fp

theorem info_span : (Try.prog.info? 42).map (fun i => (i.zero, i.size, i.bytes)) = some (some (.agg #[.int .i64 0, .int .i64 0]), 2, 16) := by kernel_rfl

def JoinPost (w : World) (cb : Nat) (L : List (Int × Int)) (day : Int) (fp : List Nat) (e : Ending) (w' : World) : Prop :=
  e = .returned (.tuple #[]) ∧ ∃ fp', SpansIn w' cb (joinS L day) fp' ∧ (∀ g ∈ fp', g ∈ fp ∨ w.heap.size ≤ g) ∧ Keep (cb :: fp) w w'

set_option maxRecDepth 100000 in
set_option maxHeartbeats 2000000 in
theorem join_any (cb : Nat) (L : List (Int × Int)) (fp : List Nat) (d : Nat) (w : World) (hs : SpansIn w cb L fp) (hl : L.length ≤ 100000) (hd : d ≤ 100000) :
    Calls Try.prog 91 #[.int .i64 d, .pointer (some ⟨cb, 0, none⟩)] w (JoinPost w cb L d fp) := by
  obtain ⟨i0, hi, hz0, hz1, hz2⟩ := info_parts info_span
  obtain ⟨A, c, hh, hown, hnc⟩ := hs
  have c0 : w.cell? ⟨cb, 0, none⟩ = some (.slice A L.length c) := (cell_of_heap hh 0).trans rfl
  have z0 := heap_lt hh
  have fr := frozen_of_heap hh 0
  rcases List.eq_nil_or_concat L with rfl | ⟨L', s, rfl⟩
  · have HS := Lib.hid (And.intro hh (And.intro hown hnc))
    have hgn : ¬ (cb ∈ fp ∨ (w.alloc (.cells #[.int .i64 d, .int .i64 d] 42)).heap.size = cb) := by simp; exact ⟨hnc, by omega⟩
    clear hh hown hnc
    simp only [List.length_nil] at c0
    go_enter Try.func91, Try.ntmps91
    go_wp2_with (at_builtin
                 refine wpList_append_S (size := 2) rfl (.tmp 24) (.tmp 28) 61 rfl i0 _ 16 Try.underlying61 hi hz0 hz1 (by decide) hz2 rfl (A := A) (n := 0) (c := c) (xs := []) (fp := fp) (by simp [Act.eval]) ⟨w.heap.size, 0, none⟩ (by simp [Act.eval]) [.int .i64 d, .int .i64 d] (HS.out.2.1.alloc _) rfl ?_ (by simp [Value.oneCell']) (by omega) (by omega) ?_
                 · intro j v hv
                   rw [show (⟨w.heap.size, 0, none⟩ : Addr).add j = ⟨w.heap.size, j, none⟩ from by simp [Addr.add]; omega, World.cell?_alloc_new]
                   simpa using hv
                 intro g c' w1 h1 h2 h3 h4
                 have hb1 : w1.heap[cb]? = some (.cells #[.slice A 0 c] 61 (0, 0)) := (h4.block cb (by simp; omega) HS.out.2.2).trans (heap_alloc' HS.out.1 _)
                 have d0 : w1.cell? ⟨cb, 0, none⟩ = some (.slice A 0 c) := (cell_of_heap hb1 0).trans rfl
                 have d1 := frozen_of_heap hb1 0
                 have HQ := Lib.hid (And.intro h1 (And.intro h2 (And.intro h4 hb1)))
                 clear h1 h2 h3 h4 hb1)
    go_end0
    refine ⟨rfl, [g], ⟨_, c', heap_set HQ.out.2.2.2 0 _, HQ.out.1.setCell (by simp; rintro rfl; exact hgn HQ.out.2.1) _, by simp; rintro rfl; exact hgn HQ.out.2.1⟩, ?_, ?_⟩
    · intro y hy
      rw [List.mem_singleton.1 hy]
      exact HQ.out.2.1.imp id (fun h => by simp at h; omega)
    · exact (((Keep.refl (cb :: fp) w).alloc _).trans HQ.out.2.2.1 (fun y hy => .inl (by simp [hy]))).setCell (.inl (by simp)) _
  · obtain ⟨n, hn⟩ : ∃ n, n = L'.length := ⟨_, rfl⟩
    have hn1 : (L' ++ [s]).length = n + 1 := by simp [hn]
    rw [List.concat_eq_append] at *
    rw [hn1] at c0 hh hown hl
    obtain ⟨g0, rfl, rfl, zg, hc, hf⟩ := hown.some_ (by omega)
    have hsp : spcs (L' ++ [s]) = spcs L' ++ spc s := by simp [spcs]
    have hlen := spcs_length L'
    rw [← hn] at hlen
    have c1 : w.cell? ⟨g0, n * 2 + 1, none⟩ = some (.int .i64 s.2) := hc _ _ (by rw [hsp, List.getElem?_append_right (by omega), hlen]; simp [spc])
    have f1 := hf (n * 2 + 1)
    have hnI : (0 : Int) ≤ (n : Int) ∧ (n : Int) ≤ 100000 := by omega
    have hgn : g0 ≠ cb := fun e => hnc (by simp [e])
    obtain ⟨x, hx⟩ : ∃ x, x = s.2 := ⟨_, rfl⟩
    rw [← hx] at c1
    have HS := Lib.hid (And.intro hh (And.intro hown (And.intro hnc (And.intro hsp (And.intro hlen (And.intro hn hx))))))
    clear hh hown hnc hsp hlen hn hx hc hf hn1
    by_cases hxd : x = (d : Int) - 1
    · have hxb : (x == (d : Int) - 1) = true := by simp [hxd]
      go_enter Try.func91, Try.ntmps91
      go_wp2_with fail
      go_end0
      have hj : joinS (L' ++ [s]) (d : Int) = L' ++ [(s.1, (d : Int))] := by simp [joinS, ← HS.out.2.2.2.2.2.2, hxd]
      have hl2 : (L' ++ [(s.1, (d : Int))]).length = n + 1 := by simp [HS.out.2.2.2.2.2.1]
      refine ⟨rfl, [g0], ?_, fun y hy => .inl hy, (Keep.refl _ _).setCell (.inl (by simp)) _⟩
      rw [hj]
      refine ⟨some ⟨g0, 0, none⟩, c, ?_, ?_, HS.out.2.2.1⟩
      · rw [hl2]; exact heap_set_ne HS.out.1 (p := ⟨g0, n * 2 + 1, none⟩) (fun e => hgn e.symm) _
      · rw [hl2]
        have h5 := HS.out.2.1.set_ (n * 2 + 1) (.int .i64 d)
        have h6 : (spcs (L' ++ [s])).set (n * 2 + 1) (.int .i64 d) = spcs (L' ++ [(s.1, (d : Int))]) := by
          rw [HS.out.2.2.2.1, spcs_append, List.set_append_right _ _ (by have := HS.out.2.2.2.2.1; omega), HS.out.2.2.2.2.1]
          simp [spc, spcs]
        rwa [h6] at h5
    · have hxb : (x == (d : Int) - 1) = false := by simp [hxd]
      go_enter Try.func91, Try.ntmps91
      go_wp2_with (at_builtin
                   refine wpList_append_S (size := 2) rfl (.tmp 24) (.tmp 28) 61 rfl i0 _ 16 Try.underlying61 hi hz0 hz1 (by decide) hz2 rfl (A := some ⟨g0, 0, none⟩) (n := n + 1) (c := c) (xs := spcs (L' ++ [s])) (fp := [g0]) (by simp [Act.eval]) ⟨w.heap.size, 0, none⟩ (by simp [Act.eval]) [.int .i64 d, .int .i64 d] (HS.out.2.1.alloc _) rfl ?_ (by simp [Value.oneCell']) (by omega) (by omega) ?_
                   · intro j v hv
                     rw [show (⟨w.heap.size, 0, none⟩ : Addr).add j = ⟨w.heap.size, j, none⟩ from by simp [Addr.add]; omega, World.cell?_alloc_new]
                     simpa using hv
                   intro g c' w1 h1 h2 h3 h4
                   have hb1 : w1.heap[cb]? = some (.cells #[.slice (some ⟨g0, 0, none⟩) (n + 1) c] 61 (0, 0)) := (h4.block cb (by simp; omega) HS.out.2.2.1).trans (heap_alloc' HS.out.1 _)
                   have d0 : w1.cell? ⟨cb, 0, none⟩ = some (.slice (some ⟨g0, 0, none⟩) (n + 1) c) := (cell_of_heap hb1 0).trans rfl
                   have d1 := frozen_of_heap hb1 0
                   have HQ := Lib.hid (And.intro h1 (And.intro h2 (And.intro h4 hb1)))
                   clear h1 h2 h3 h4 hb1)
      go_end0
      have hgc : ¬ (cb ∈ [g0] ∨ (w.alloc (.cells #[.int .i64 d, .int .i64 d] 42)).heap.size = cb) := by simp; exact ⟨fun e => hgn e.symm, by omega⟩
      have hj : joinS (L' ++ [s]) (d : Int) = (L' ++ [s]) ++ [((d : Int), (d : Int))] := by
        simp only [joinS, List.getLast?_append, List.getLast?_singleton, Option.some_or]
        rw [if_neg (by rw [← HS.out.2.2.2.2.2.2]; exact hxd)]
      have hl2 : ((L' ++ [s]) ++ [((d : Int), (d : Int))]).length = n + 1 + 1 := by simp [HS.out.2.2.2.2.2.1]
      refine ⟨rfl, [g], ?_, ?_, ?_⟩
      · rw [hj]
        refine ⟨some ⟨g, 0, none⟩, c', ?_, ?_, by simp; rintro rfl; exact hgc HQ.out.2.1⟩
        · rw [hl2]; exact heap_set HQ.out.2.2.2 0 _
        · rw [hl2, spcs_append]; exact HQ.out.1.setCell (by simp; rintro rfl; exact hgc HQ.out.2.1) _
      · intro y hy
        rw [List.mem_singleton.1 hy]
        exact HQ.out.2.1.imp id (fun h => by simp at h; omega)
      · exact (((Keep.refl (cb :: [g0]) w).alloc _).trans HQ.out.2.2.1 (fun y hy => .inl (by simp at hy ⊢; exact .inr hy))).setCell (.inl (by simp)) _
end Go.Proofs.Ytfmhlnfcbbpfeaa
/- restrict.Windows -/
namespace Go.Proofs.Ytfmhlnfcbbpfeaa
open Go Go.RowKit Sp

/-- the windows of the first k days -/
def winN (l : List Bool) : Nat → List (Int × Int)
  | 0 => []
  | k + 1 => if l.getD k false then joinS (winN l k) k else winN l k
theorem joinS_length (L : List (Int × Int)) (d : Int) : (joinS L d).length ≤ L.length + 1 := by
  unfold joinS
  split
  · rename_i s hs
    have : L ≠ [] := by rintro rfl; cases hs
    have h1 : 0 < L.length := List.length_pos_iff.2 this
    split <;> simp <;> omega
  · simp
theorem winN_length (l : List Bool) (k : Nat) : (winN l k).length ≤ k := by
  induction k with
  | zero => exact Nat.le_refl _
  | succ k ih =>
    unfold winN
    split
    · exact Nat.le_trans (joinS_length _ _) (by omega)
    · omega
def windowsS (p : Pol) (days : List Int) (v : Ves) : List (Int × Int) := if askS p days v = 0 then winN (passesS p days v) days.length else []

def SpansAt (w : World) (A : Option Addr) (c : Nat) (L : List (Int × Int)) : Prop := Rd w 2 A L.length (spcs L) ∧ L.length ≤ c ∧ c ≤ 9223372036854775807
def WindowsPost (w : World) (p : Pol) (days : List Int) (v : Ves) (e : Ending) (w' : World) : Prop :=
  ∃ A c, e = .returned (.tuple #[.slice A (windowsS p days v).length c, .int .i64 (askS p days v)]) ∧ SpansAt w' A c (windowsS p days v) ∧ Below w.heap.size w w'

set_option maxRecDepth 100000 in
set_option maxHeartbeats 2000000 in
theorem Windows_any (As : Option Addr) (cs : Nat) (p : Pol) (A : Option Addr) (c : Nat) (days : List Int) (v : Ves) (w : World) (hp : PolV w As cs p) (hr : Rd w 1 A days.length (ints days)) (hm : days.length ≤ 9223372036854775807) :
    Calls Try.prog 26 #[.agg #[.slice As p.steps.length cs, .int .i64 p.hold, .int .i64 p.calm, .int .i64 p.notice, .int .i64 p.grace], .slice A days.length c, .agg #[.int .i64 v.cls, .int .i64 v.ton, .bool v.esc]] w (WindowsPost w p days v) := by
  obtain ⟨er, her⟩ : ∃ er, er = askS p days v := ⟨_, rfl⟩
  obtain ⟨n, hn⟩ : ∃ n, n = if er = 0 then days.length else 0 := ⟨_, rfl⟩
  have b0 : ∀ o o', Below w.heap.size w ((w.alloc o).alloc o') := fun o o' => ((Below.refl _ _).alloc (Nat.le_refl _) _).alloc (by simp) _
  have hak : ∀ o o', Calls Try.prog 82 #[.agg #[.slice As p.steps.length cs, .int .i64 p.hold, .int .i64 p.calm, .int .i64 p.notice, .int .i64 p.grace], .slice A days.length c, .agg #[.int .i64 v.cls, .int .i64 v.ton, .bool v.esc]]
      ((w.alloc o).alloc o')
      fun e w1 => ∃ A1 c1, e = .returned (.tuple #[.slice A1 n c1, .int .i64 er]) ∧ (er = 0 → BoolsAt w1 A1 c1 (passesS p days v)) ∧ Below w.heap.size w w1 := by
    intro o o'
    refine (asked_any As cs p A c days v _ ⟨hp.1, hp.2.1, hp.2.2.below (b0 _ _)⟩ (hr.below (b0 _ _)) hm).mono ?_
    rintro e w1 ⟨A1, c1, rfl, h1, h2⟩
    exact ⟨A1, c1, by rw [hn, her], fun h => h1 (her.symm.trans h), (b0 _ _).trans (h2.mono (by simp; omega))⟩
  have HP := Lib.hid (And.intro her (And.intro hn hak))
  clear her hn hak b0 hr hp
  by_cases h0 : er = 0
  · subst h0
    have hne : ((0 : Int) != 0) = false := rfl
    obtain rfl : n = days.length := HP.out.2.1
    have hst : startS p days = 0 := by
      by_cases h : startS p days = 0
      · exact h
      · have := ask_start (v := v) h; rw [← HP.out.1] at this; exact absurd this.symm h
    obtain ⟨_, hl4, _⟩ := start_ok hst
    clear hst
    go_enter Try.func26, Try.ntmps26
    go_wp2_with fail
    refine (HP.out.2.2 _ _).mono ?_
    rintro e w1 ⟨A1, c1, rfl, h1, h2⟩
    obtain ⟨hr1, hc1, hc2⟩ := h1 trivial
    rw [passesS_length] at hr1 hc1
    have HB := Lib.hid h2
    clear h1 h2
    go_wp2_with fail
    obtain ⟨cb, hcb⟩ : ∃ cb, cb = w1.heap.size := ⟨_, rfl⟩
    rw [← hcb]
    obtain ⟨W, hW⟩ : ∃ W, W = w1.alloc (.cells #[.slice none 0 0] 61) := ⟨_, rfl⟩
    rw [← hW]
    have hh : W.heap[cb]? = some (.cells #[.slice none 0 0] 61 (0, 0)) := by rw [hW, hcb]; exact heap_alloc_new _ _
    have kW : Keep [] w1 W := by rw [hW]; exact (Keep.refl _ _).alloc _
    have zW : W.heap.size = cb + 1 := by rw [hW, hcb]; simp
    have hz := HB.out.size
    obtain ⟨l, hl⟩ : ∃ l, l = passesS p days v := ⟨_, rfl⟩
    have hll : l.length = days.length := by rw [hl, passesS_length]
    rw [← hl] at hr1
    have HL := Lib.hid (And.intro hl (And.intro kW hcb))
    clear hl hW kW hcb
    go_loopw [27] (fun i wr => ∃ (k : Nat) (fp : List Nat), k ≤ days.length ∧ i = .int .i64 k ∧ SpansIn wr cb (winN l k) fp ∧ (∀ g ∈ fp, cb + 1 ≤ g) ∧ Keep [cb] W wr)
      (fun i _ => days.length - (intOf i).toNat)
    case atStart => exact ⟨0, [], Nat.zero_le _, rfl, ⟨none, 0, hh, OwnS.nil _ _ _, by simp⟩, by simp, Keep.refl _ _⟩
    case round =>
      obtain ⟨k, fp, hk, rfl, hsp, hfp, hK⟩ := hrel
      by_cases hlt : k < days.length
      · obtain ⟨b, off, rfl, hb, hc⟩ := hr1.2 (by omega)
        have c0 : wr.cell? ⟨b, off + k, none⟩ = some (.bool (l.getD k false)) := hK.cell ((HL.out.2.1.cell (hc k _ (bools_get (by omega))) (by simp))) (by simp; have := HL.out.2.2; omega)
        obtain ⟨x, hx⟩ : ∃ x, x = l.getD k false := ⟨_, rfl⟩
        rw [← hx] at c0
        have HX := Lib.hid (And.intro hx (And.intro hsp (And.intro hfp hK)))
        clear hx hsp hfp hK hc hr1
        cases x
        · go_wp2_with fail
          go_roundw
          case rel =>
            refine ⟨k + 1, fp, by omega, by go_num, ?_, HX.out.2.2.1, HX.out.2.2.2⟩
            rw [winN, ← HX.out.1]; exact HX.out.2.1
          case measure => simp [intOf]; omega
        · have hwl := winN_length l k
          go_wp2_with (go_at_call 91; refine (join_any cb (winN l k) fp k wr HX.out.2.1 (by omega) (by omega)).mono ?_; rintro e w2 ⟨rfl, fp2, hs2, hf2, hk2⟩; have H2 := Lib.hid (And.intro hs2 (And.intro hf2 hk2)); clear hs2 hf2 hk2)
          go_roundw
          case rel =>
            have hwr := HX.out.2.2.2.size
            refine ⟨k + 1, fp2, by omega, by go_num, ?_, ?_, HX.out.2.2.2.trans H2.out.2.2 ?_⟩
            · rw [winN, ← HX.out.1]; exact H2.out.1
            · intro g hg
              rcases H2.out.2.1 g hg with h | h
              · exact HX.out.2.2.1 g h
              · omega
            · intro y hy
              rcases List.mem_cons.1 hy with h | h
              · exact .inl (by simp [h])
              · exact .inr (by have := HX.out.2.2.1 y h; omega)
          case measure => simp [intOf]; omega
      · obtain rfl : k = days.length := by omega
        obtain ⟨A2, c2, hh2, hown, hnc⟩ := hsp
        have c0 : wr.cell? ⟨cb, 0, none⟩ = some (.slice A2 (winN l days.length).length c2) := (cell_of_heap hh2 0).trans rfl
        have HO := Lib.hid (And.intro hown hK)
        clear hown hK hh2
        go_wp2_with fail
        go_ret2
        have he : windowsS p days v = winN l days.length := by unfold windowsS; rw [if_pos HP.out.1.symm, HL.out.1]
        refine ⟨A2, c2, by rw [he, ← HP.out.1]; rfl, by rw [he]; exact ⟨HO.out.1.rd, HO.out.1.ge, HO.out.1.cap⟩, ?_⟩
        have b1 : Below w1.heap.size w1 wr := (HL.out.2.1.below (Nat.le_refl _) (by simp)).trans (HO.out.2.below (by have := HL.out.2.2; omega) (by simp; have := HL.out.2.2; omega))
        exact HB.out.trans (b1.mono hz)
  · have hne : (er != 0) = true := by simp [h0]
    have HK := Lib.hid h0
    clear h0
    go_enter Try.func26, Try.ntmps26
    go_wp2_with fail
    refine (HP.out.2.2 _ _).mono ?_
    rintro e w1 ⟨A1, c1, rfl, h1, h2⟩
    have HB := Lib.hid h2
    clear h1 h2
    go_wp2_with fail
    go_ret2
    have he : windowsS p days v = [] := by unfold windowsS; rw [if_neg (by rw [← HP.out.1]; exact HK.out)]
    refine ⟨none, 0, by rw [he, ← HP.out.1]; rfl, by rw [he]; exact ⟨Rd.nil _ _ _, Nat.le_refl _, by omega⟩, HB.out⟩
end Go.Proofs.Ytfmhlnfcbbpfeaa
/- rules.orders: the iterator -/
namespace Go.Proofs.Ytfmhlnfcbbpfeaa
open Go Go.RowKit Go.Shelf Go.Proofs Sp
attribute [local go_sem] Oper.semAt_some

structure Ord where
  iss : Int
  frm : Int
  stp : Int
deriving DecidableEq, Inhabited

def befN (f : List Int) : Nat → Int
  | 0 => 0
  | k + 1 => f.getD k 0
/-- the orders of the first k days -/
def ordN (f : List Int) (no : Int) : Nat → List Ord
  | 0 => []
  | k + 1 => if f.getD k 0 = befN f k then ordN f no k else ordN f no k ++ [⟨if befN f k < f.getD k 0 then (k : Int) - no else k, k, f.getD k 0⟩]
def ordersS (p : Pol) (days : List Int) : List Ord := ordN (forceS p days) p.notice days.length
theorem ordN_prefix (f : List Int) (no : Int) {j k : Nat} (h : j ≤ k) : ordN f no j <+: ordN f no k := by
  induction k with
  | zero => obtain rfl : j = 0 := by omega
            exact List.prefix_refl _
  | succ k ih =>
    by_cases e : j = k + 1
    · subst e; exact List.prefix_refl _
    · refine (ih (by omega)).trans ?_
      rw [ordN]; split
      · exact List.prefix_refl _
      · exact List.prefix_append _ _
theorem ordN_length (f : List Int) (no : Int) (k : Nat) : (ordN f no k).length ≤ k := by
  induction k with
  | zero => exact Nat.le_refl _
  | succ k ih =>
    rw [ordN]; split
    · omega
    · rw [List.length_append]; simp; omega

def orc (x : Ord) : Value := .agg #[.int .i64 x.iss, .int .i64 x.frm, .int .i64 x.stp]

/-- what a round keeps: whatever cells are not free -/
structure KpF (free : Nat → Obj → Prop) (W W' : World) : Prop where
  size : W.heap.size ≤ W'.heap.size
  same : ∀ (k : Nat) (o : Obj), W.heap[k]? = some o → o.isCells = true → ¬ free k o → W'.heap[k]? = some o
theorem KpF.trans {free : Nat → Obj → Prop} {A B C : World} (h : KpF free A B) (h' : KpF free B C) : KpF free A C :=
  ⟨Nat.le_trans h.size h'.size, fun k o hk hc hf => h'.same k o (h.same k o hk hc hf) hc hf⟩

theorem grown_of_below {w w' : World} (h : Below w.heap.size w w') : w.grownBy w' none := ⟨h.os, h.tape, h.output, h.size, fun k hk _ => h.block k hk⟩

/-- what the iterator reads between two rounds stays -/
structure ItKeep (W w1 wr : World) (rb pb : Nat) : Prop where
  size : w1.heap.size ≤ wr.heap.size
  ints : ∀ g cur, W.heap.size ≤ g → w1.heap[g]? = some (.cells cur 3 (0, 0)) → wr.heap[g]? = some (.cells cur 3 (0, 0))
  rules : ∀ cs, w1.heap[rb]? = some (.cells cs 143 (0, 0)) → wr.heap[rb]? = some (.cells cs 143 (0, 0))
  pol : ∀ cs, w1.heap[pb]? = some (.cells cs 25 (0, 0)) → wr.heap[pb]? = some (.cells cs 25 (0, 0))
theorem ItKeep.refl (W w1 : World) (rb pb : Nat) : ItKeep W w1 w1 rb pb := ⟨Nat.le_refl _, fun _ _ _ h => h, fun _ h => h, fun _ h => h⟩
theorem ItKeep.below {W w1 a b : World} {rb pb : Nat} (h : ItKeep W w1 a rb pb) (hb : Below a.heap.size a b) : ItKeep W w1 b rb pb :=
  ⟨Nat.le_trans h.size hb.size, fun g cur hg h1 => (hb.block g (heap_lt (h.ints g cur hg h1))).trans (h.ints g cur hg h1),
    fun cs h1 => (hb.block rb (heap_lt (h.rules cs h1))).trans (h.rules cs h1), fun cs h1 => (hb.block pb (heap_lt (h.pol cs h1))).trans (h.pol cs h1)⟩
theorem ItKeep.kp {free : Nat → Obj → Prop} {W w1 a b : World} {rb pb : Nat} (h : ItKeep W w1 a rb pb) (hk : KpF free a b)
    (hf1 : ∀ k cs, W.heap.size ≤ k → ¬ free k (.cells cs 3 (0, 0))) (hf2 : ∀ cs, ¬ free rb (.cells cs 143 (0, 0))) (hf3 : ∀ cs, ¬ free pb (.cells cs 25 (0, 0))) : ItKeep W w1 b rb pb :=
  ⟨Nat.le_trans h.size hk.size, fun g cur hg h1 => hk.same g _ (h.ints g cur hg h1) rfl (hf1 _ _ hg), fun cs h1 => hk.same rb _ (h.rules cs h1) rfl (hf2 _), fun cs h1 => hk.same pb _ (h.pol cs h1) rfl (hf3 _)⟩

set_option maxRecDepth 100000 in
set_option maxHeartbeats 4000000 in
theorem orders1_stops (free : Nat → Obj → Prop) (rb db pb : Nat) (p : Pol) (A : Option Addr) (c : Nat) (days : List Int) (w : World) (hp : PolAt w pb p) (hh : 1 ≤ p.hold ∧ p.hold ≤ 1000) (hca : 1 ≤ p.calm ∧ p.calm ≤ 1000) (hno : 0 ≤ p.notice ∧ p.notice ≤ 900)
    (hrb : w.heap[rb]? = some (.cells #[.pointer (some ⟨pb, 0, none⟩)] 143 (0, 0))) (hdb : w.heap[db]? = some (.cells #[.slice A days.length c] 27 (0, 0))) (hr : Rd w 1 A days.length (ints days)) (hl : days.length ≤ 100000)
    (hf1 : ∀ k cs, w.heap.size ≤ k → ¬ free k (.cells cs 3 (0, 0))) (hf2 : ∀ cs, ¬ free rb (.cells cs 143 (0, 0))) (hf3 : ∀ cs, ¬ free pb (.cells cs 25 (0, 0))) (n : Nat) (hn : 1 ≤ n) :
    SeqStopsK Fence.wide n Try.prog 134 #[.pointer (some ⟨rb, 0, none⟩), .pointer (some ⟨db, 0, none⟩)] (fun x : Ord => #[orc x]) (KpF free) (fun xs => xs = ordersS p days) (fun pre => pre <+: ordersS p days) days.length w := by
  intro l J Jx W hW hJ hJx hY h0
  have hp := hp.below hW
  have zrb := heap_lt hrb
  have zdb := heap_lt hdb
  have hrb := (hW.block rb zrb).trans hrb
  have hdb := (hW.block db zdb).trans hdb
  have hr := hr.below hW
  have c1 : W.cell? ⟨rb, 0, none⟩ = some (.pointer (some ⟨pb, 0, none⟩)) := (cell_of_heap hrb 0).trans rfl
  have c2 : W.cell? ⟨db, 0, none⟩ = some (.slice A days.length c) := (cell_of_heap hdb 0).trans rfl
  have HP := Lib.hid (And.intro hp (And.intro hrb (And.intro hr (And.intro hJ (And.intro hJx (And.intro hY (And.intro h0 hW)))))))
  clear hp hrb hdb hr hJ hJx hY h0
  refine callsIn_of_wp Try.func134 rfl trivial ?_ rfl
  simp only [Try.ntmps134, List.size_toArray, List.length_cons, List.length_nil, Nat.reduceAdd, Nat.reduceSub, Array.replicate_succ, Array.replicate_zero, List.push_toArray, List.append_toArray, List.nil_append, List.cons_append]
  gi_wp2_with (refine ⟨trivial, ?_⟩; gi_at_call 86; refine (callsIn_wide.2 (force_new pb p A c days W HP.out.1 hh hca hno HP.out.2.2.1 hl)).mono ?_; rintro e w1 ⟨A1, c1', rfl, i1, b1, n1⟩; have H1 := Lib.hid (And.intro i1 (And.intro b1 n1)); clear i1 b1 n1)
  obtain ⟨F, hF⟩ : ∃ F, F = forceS p days := ⟨_, rfl⟩
  obtain ⟨no, hno'⟩ : ∃ no, no = p.notice := ⟨_, rfl⟩
  have hO : ordersS p days = ordN F no days.length := by rw [hF, hno']; rfl
  have hFl : F.length = days.length := by rw [hF, forceS_length]
  have hJw : J [] w1 := HP.out.2.2.2.1 [] W w1 none HP.out.2.2.2.2.2.2.1 (grown_of_below H1.out.2.1) (fun r e => by cases e)
  have hg1 : w1.heap[rb]? = some (.cells #[.pointer (some ⟨pb, 0, none⟩)] 143 (0, 0)) := (H1.out.2.1.block rb (heap_lt HP.out.2.1)).trans HP.out.2.1
  have hp1 : PolAt w1 pb p := HP.out.1.below H1.out.2.1
  have hnb : 0 ≤ no ∧ no ≤ 900 := by rw [hno']; exact hno
  have HF := Lib.hid (And.intro hF (And.intro hno' (And.intro hO (And.intro hg1 hp1))))
  clear hF hno' hO hg1 hp1 hno hh hca
  gi_loopw [4, 12] (fun bf i wr => ∃ k : Nat, k ≤ days.length ∧ i = .int .i64 k ∧ bf = .int .i64 (befN F k) ∧ J (ordN F no k) wr ∧ ItKeep W w1 wr rb pb)
    (fun _ i _ => days.length - (intOf i).toNat)
  case atStart => exact ⟨0, Nat.zero_le _, rfl, rfl, hJw, ItKeep.refl _ _ _ _⟩
  case round =>
    obtain ⟨k, hk, rfl, rfl, hJk, hI⟩ := hrel
    by_cases hlt : k < days.length
    · obtain ⟨g, off, cur, rfl, hgW, hgc⟩ := H1.out.2.2 (by omega)
      obtain ⟨x, hx⟩ : ∃ x, x = F.getD k 0 := ⟨_, rfl⟩
      obtain ⟨bf, hbf⟩ : ∃ bf, bf = befN F k := ⟨_, rfl⟩
      have c3 : wr.cell? ⟨g, off + k, none⟩ = some (.int .i64 x) := by
        obtain ⟨b', o', e1, _, hcc⟩ := H1.out.1.1.2 (by rw [← HF.out.1]; omega)
        injection e1 with e1
        injection e1 with e1 e2 _
        subst e1 e2
        have h5 := hcc k _ (ints_get (by rw [← HF.out.1]; omega))
        rw [← HF.out.1, ← hx, cell_of_heap hgc] at h5
        rw [cell_of_heap (hI.ints g cur hgW hgc), h5]
      have c4 : wr.cell? ⟨rb, 0, none⟩ = some (.pointer (some ⟨pb, 0, none⟩)) := (cell_of_heap (hI.rules _ HF.out.2.2.2.1) 0).trans rfl
      have z4 : rb < wr.heap.size := heap_lt (hI.rules _ HF.out.2.2.2.1)
      have c5 : wr.cell? ⟨pb, 3, none⟩ = some (.int .i64 no) := by
        obtain ⟨Ap, cp, hh, _⟩ := HF.out.2.2.2.2
        rw [cell_of_heap (hI.pol _ hh), HF.out.2.1]; rfl
      have z5 : pb < wr.heap.size := by
        obtain ⟨Ap, cp, hh, _⟩ := HF.out.2.2.2.2
        exact heap_lt (hI.pol _ hh)
      rw [← hbf]
      have hord : ordN F no (k + 1) = if x = bf then ordN F no k else ordN F no k ++ [⟨if bf < x then (k : Int) - no else k, k, x⟩] := by rw [hx, hbf]; rfl
      have hbk : befN F (k + 1) = x := hx.symm
      have HX := Lib.hid (And.intro hJk (And.intro hI (And.intro hord (And.intro hbk (And.intro hgW hgc)))))
      have hol := ordN_length F no k
      clear hJk hI hord hbk hx hbf hgW hgc
      by_cases hxb : x = bf
      · subst hxb
        have hd1 : (x != x) = false := by simp
        gi_wp2
        refine ⟨fun _ h => (by cases h), ?_⟩
        gi_wp2
        go_roundw
        case rel => exact ⟨k + 1, by omega, by go_num, by rw [HX.out.2.2.2.1], by rw [HX.out.2.2.1]; simp only [if_true]; exact HP.out.2.2.2.1 _ wr _ none HX.out.1 (grown_of_below ((Below.refl _ _).alloc (Nat.le_refl _) _)) (fun r e => by cases e), HX.out.2.1.below ((Below.refl _ _).alloc (Nat.le_refl _) _)⟩
        case measure => simp [intOf]; omega
      · have hd1 : (x != bf) = true := by simp [hxb]
        by_cases hgt : bf < x
        · have hd2 : decide (bf < x) = true := by simp [hgt]
          have hord' : ordN F no (k + 1) = ordN F no k ++ [⟨(k : Int) - no, k, x⟩] := by rw [HX.out.2.2.1, if_neg hxb, if_pos hgt]
          gi_upto_region 6 with fail
          gi_region
          have bX := Lib.hid ((Below.refl wr.heap.size wr).alloc (Nat.le_refl _) (.cells #[.int .i64 ((k : Int) - no), .int .i64 k, .int .i64 x] 54)).drew
          obtain ⟨fn, tmps, assign, body, hy, hR⟩ := HP.out.2.2.2.2.2.1 (ordN F no k) ⟨(k : Int) - no, k, x⟩ (wr.alloc (.cells #[.int .i64 ((k : Int) - no), .int .i64 k, .int .i64 x] 54)).drew (HP.out.2.2.2.1 _ wr _ none HX.out.1 (grown_of_below bX.out) (fun r e => by cases e)) (by omega)
          dsimp only [orc] at hy
          gi_wp2
          refine hR.mono ?_
          rintro e W3 (⟨rfl, hJ3, hk3⟩ | ⟨rfl, hJx3⟩)
          · have HY := Lib.hid (And.intro hJ3 hk3)
            clear hJ3 hk3
            gi_wp2
            go_roundw
            case rel => exact ⟨k + 1, by omega, by go_num, by rw [HX.out.2.2.2.1], by rw [hord']; exact HY.out.1, (HX.out.2.1.below bX.out).kp HY.out.2 (fun k cs hk => hf1 k cs (by have := HP.out.2.2.2.2.2.2.2.size; omega)) hf2 hf3⟩
            case measure => simp [intOf]; omega
          · gi_wp2
            refine bodyPost_ret (results_none rfl _ _ _) rfl ?_
            refine ⟨⟨_, rfl⟩, .inr ⟨_, ?_, hJx3⟩⟩
            rw [← hord', HF.out.2.2.1]; exact ordN_prefix _ _ (by omega)
        · have hd2 : decide (bf < x) = false := by simp [hgt]
          have hord' : ordN F no (k + 1) = ordN F no k ++ [⟨(k : Int), k, x⟩] := by rw [HX.out.2.2.1, if_neg hxb, if_neg hgt]
          have bX := Lib.hid ((Below.refl wr.heap.size wr).alloc (Nat.le_refl _) (.cells #[.int .i64 k, .int .i64 k, .int .i64 x] 54))
          obtain ⟨fn, tmps, assign, body, hy, hR⟩ := HP.out.2.2.2.2.2.1 (ordN F no k) ⟨(k : Int), k, x⟩ (wr.alloc (.cells #[.int .i64 k, .int .i64 k, .int .i64 x] 54)) (HP.out.2.2.2.1 _ wr _ none HX.out.1 (grown_of_below bX.out) (fun r e => by cases e)) (by omega)
          dsimp only [orc] at hy
          gi_wp2
          refine hR.mono ?_
          rintro e W3 (⟨rfl, hJ3, hk3⟩ | ⟨rfl, hJx3⟩)
          · have HY := Lib.hid (And.intro hJ3 hk3)
            clear hJ3 hk3
            gi_wp2
            go_roundw
            case rel => exact ⟨k + 1, by omega, by go_num, by rw [HX.out.2.2.2.1], by rw [hord']; exact HY.out.1, (HX.out.2.1.below bX.out).kp HY.out.2 (fun k cs hk => hf1 k cs (by have := HP.out.2.2.2.2.2.2.2.size; omega)) hf2 hf3⟩
            case measure => simp [intOf]; omega
          · gi_wp2
            refine bodyPost_ret (results_none rfl _ _ _) rfl ?_
            refine ⟨⟨_, rfl⟩, .inr ⟨_, ?_, hJx3⟩⟩
            rw [← hord', HF.out.2.2.1]; exact ordN_prefix _ _ (by omega)
    · obtain rfl : k = days.length := by omega
      gi_wp2
      go_end0
      exact ⟨⟨_, rfl⟩, .inl ⟨_, HF.out.2.2.1.symm, hJk⟩⟩
end Go.Proofs.Ytfmhlnfcbbpfeaa
