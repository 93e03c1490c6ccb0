import Derived.Test.YtalcinepeofmcaaGreatPBp1
import Derived.Test.YtalcinepeofmcaaGreatPBp2
import Derived.Test.YtalcinepeofmcaaGreatPBp8
set_option linter.unusedVariables false
set_option linter.unusedSimpArgs false
set_option maxRecDepth 100000
set_option maxHeartbeats 40000000
namespace Go.Proofs.YtalcinepeofmcaaGreat
open Go Go.RowKit
section
variable {w w' : World} {e : TypeId} {size : Nat} {A B : Option Addr} {n c m d : Nat} {xs ys : List Value} {fp : List Nat} {P : Program}
theorem Rd.add_n (h : Rd w size B m ys) {ad : Addr} (he : B = some ad) : ∀ j u, ys[j]? = some u → w.cell? (ad.add j) = some u := by
  intro j u hu;have hl : 0 < m := by
    have h1 := (List.getElem?_eq_some_iff.1 hu).1;have h2 := h.1;rcases Nat.eq_zero_or_pos m with h3 | h3
    · subst h3; simp at h2; subst h2; simp at h1
    · exact h3
  obtain ⟨b, off, e1, _, hc⟩ := h.2 hl;rw [he] at e1;injection e1 with e1
  subst e1;have := hc j u hu;by_cases hj : j = 0
  · subst hj; simpa [Addr.add] using this
  · simpa [Addr.add, hj] using this
theorem run_append_M (t ty : TypeId) (i : TypeInfo) (z : Value) (bytes : Nat) (ht : P.underlying t = some (.slice e)) (hi : P.info? e = some i) (hz : i.zero = some z)
    (hsize : i.size = size) (hby : i.bytes = bytes) (hzs : z.cells.size = size) (hown : OwnS w e size A n c xs fp) (hr : Rd w size B m ys) (h1 : ∀ u ∈ ys, u.oneCell' = true)
    (hn : n + m ≤ 1000000000000) (hbytes : bytes ≤ 100) :
    ∃ A' c' w' fp', (Builtin.append_ #[t, t] ty #[.slice A n c, .slice B m d]).run P w = .ok (.slice A' (n + m) c') w' ∧
      OwnS w' e size A' (n + m) c' (xs ++ ys) fp' ∧ (∀ g ∈ fp', g ∈ fp ∨ w.heap.size = g) ∧ Keep fp w w' := by
  subst hby hsize;have hym : ys.length = m * i.size := hr.1;have hxl := hown.1;rcases Nat.eq_zero_or_pos m with hm | hm
  · subst hm;obtain rfl : ys = [] := List.eq_nil_of_length_eq_zero (by simpa using hym);refine ⟨A, c, w, fp, ?_, by simpa using hown, fun g hg => .inl hg, Keep.refl _ _⟩;have hge := hown.ge;have hfc : (Builtin.firstCells i.size 0 (.slice B 0 d)).run P w = .ok #[] w := by
      cases B with
      | none => simp [Builtin.firstCells]
      | some b => simp [Builtin.firstCells, loadCells, loadCellsFrom]
    cases A with
    | none => simp [Builtin.append_, run_underlying ht, sizeOf, typeInfo, hi, Builtin.lenOf, hge, hfc]
    | some a => simp [Builtin.append_, run_underlying ht, sizeOf, typeInfo, hi, Builtin.lenOf, hge, hfc, storeCells]
  · obtain ⟨b, off, rfl, hb, hc⟩ := hr.2 hm;have hb1 : (n + m) * i.bytes ≤ 140737488355328 := Nat.le_trans (Nat.mul_le_mul hn hbytes) (by decide);have hnews := hr.add_n rfl;have hmx : n + m ≤ maxLen := by simp only [maxLen]; omega
    have grown : ∀ (old : Nat) (olds : List Value), olds = xs →
        OwnS (w.drew.alloc (.cells (olds.toArray ++ ys.toArray ++ Builtin.zeroCells z.cells (grownCap w (n + m) old e - (n + m))) e)) e i.size (some ⟨w.heap.size, 0, none⟩) (n + m) (grownCap w (n + m) old e) (xs ++ ys) [w.heap.size] := by
      rintro old olds rfl;have hge := grownCap_ge w (n + m) old e;have hcm : grownCap w (n + m) old e ≤ maxLen := grownCap_le_maxLen w (n + m) old e hmx;simp only [maxLen] at hcm;refine ⟨by simp [hxl, hym, Nat.add_mul], .inr ⟨_, _, rfl, rfl, heap_alloc_new w.drew _, hge, hcm, ?_, ?_⟩⟩
      · simp only [Array.size_append, List.size_toArray, size_zeroCells, hzs, hxl, hym];generalize grownCap w (n + m) old e = G at hge ⊢;obtain ⟨d, rfl⟩ : ∃ d, G = n + m + d := ⟨G - (n + m), by omega⟩;rw [show n + m + d - (n + m) = d from by omega];simp only [Nat.add_mul]
      · intro j v hv;have hlt : j < (olds ++ ys).length := (List.getElem?_eq_some_iff.1 hv).1;rw [Array.getElem?_append_left (by simpa using hlt)];simpa using hv
    have hkeep : ∀ o : Obj, Keep fp w (w.drew.alloc o) := fun o => ((Keep.refl fp w).drew).alloc o;rcases hown.2 with ⟨rfl, rfl, rfl, rfl⟩ | ⟨g, cur, rfl, rfl, hh, hnc, hcm, hcs, hat⟩
    · have hx : xs = [] := List.eq_nil_of_length_eq_zero (by omega);subst hx;have hrn := run_append_nil (P := P) w t ty e i z ht hi hz ⟨b, off, none⟩ m d ys hym hnews hm (by omega) (by simp at hb1; omega);have hg := grown 0 [] rfl;simp only [Nat.zero_add, List.nil_append, Array.empty_append] at hg ⊢;exact ⟨_, _, _, _, hrn, hg, fun y hy => .inr (List.mem_singleton.1 hy).symm, hkeep _⟩
    · by_cases hroom : n + m ≤ c
      · have hcn : (n + m) * i.size ≤ c * i.size := Nat.mul_le_mul_right _ hroom;have hn1 : (n + m) * i.size = n * i.size + m * i.size := Nat.add_mul _ _ _;have hrn := run_append_room_cells (P := P) w t ty e i ht hi g 0 n c ⟨b, off, none⟩ m d ys hym hnews h1 hroom (by
          intro j hj;have hlt' : 0 + n * i.size + j < cur.size := by omega
          rw [cOH hh, Array.getElem?_eq_getElem hlt'];rfl) (fun j hj => fOH hh _)
        obtain ⟨cur', g1, g2, g3, g4⟩ := setCells_heap g ys (0 + n * i.size) w cur hh;refine ⟨some ⟨g, 0, none⟩, c, _, [g], hrn, ⟨by simp [hxl, hym, hn1], .inr ⟨g, cur', rfl, rfl, g1, hroom, hcm, by rw [g2]; exact hcs, ?_⟩⟩, fun y hy => .inl hy, setCells_keep g ys _ w w (Keep.refl _ _) (.inl (by simp))⟩;intro j v hv;rw [List.getElem?_append] at hv;split at hv
        · rename_i hj
          rw [g4 j (by omega)];exact hat j v hv
        · rename_i hj
          have h6 := (List.getElem?_eq_some_iff.1 hv).1;have := g3 (j - xs.length) v hv (by omega)
          rwa [show 0 + n * i.size + (j - xs.length) = j from by omega] at this
      · have holds : ∀ j v, xs[j]? = some v → w.cell? ((⟨g, 0, none⟩ : Addr).add j) = some v := by
          intro j v hv;rw [show (⟨g, 0, none⟩ : Addr).add j = ⟨g, j, none⟩ from by simp [Addr.add]; omega];exact (cOH hh _).trans (hat j v hv)
        have hrn := run_append_grow (P := P) w t ty e i z ht hi hz ⟨g, 0, none⟩ n c xs hxl holds ⟨b, off, none⟩ m d ys hym hnews (by omega) (by omega) (growslice_fits (by omega) hb1);exact ⟨_, _, _, _, hrn, grown c xs rfl, fun y hy => .inr (List.mem_singleton.1 hy).symm, hkeep _⟩
theorem wp_append_M {o : Oper} {a : Act} {K : Act → World → Prop} {Q : Exit → Act → World → Prop} (s x : Operand) (t : TypeId)
    (ho : o.op = .call { callee := .builtin .append, args := #[s, x], argTypes := #[t, t] })
    (i : TypeInfo) (z : Value) (bytes : Nat) (ht : P.underlying t = some (.slice e)) (hi : P.info? e = some i) (hz : i.zero = some z)
    (hsize : i.size = size) (hby : i.bytes = bytes) (hzs : z.cells.size = size) (hs : a.eval s = .slice A n c) (hx : a.eval x = .slice B m d)
    (hown : OwnS w e size A n c xs fp) (hr : Rd w size B m ys) (h1 : ∀ u ∈ ys, u.oneCell' = true)
    (hn : n + m ≤ 1000000000000) (hbytes : bytes ≤ 100)
    (h : ∀ A' c' w' fp', OwnS w' e size A' (n + m) c' (xs ++ ys) fp' → (∀ g ∈ fp', g ∈ fp ∨ w.heap.size = g) → Keep fp w w' → K (a.put o.dst (.slice A' (n + m) c')) w') : o.wp P a w K Q := by
  obtain ⟨A', c', w', fp', hrn, h2, h3, h4⟩ := run_append_M (P := P) (d := d) t o.type i z bytes ht hi hz hsize hby hzs hown hr h1 hn hbytes;unfold Oper.wp execOp;simp only [ho, resolve, invoke, builtin, Sem.run_bind, Sem.run_pure, Result.andThen_ok, List.map_toArray, List.map_cons, List.map_nil, hs, hx, hrn];exact h A' c' w' fp' h2 h3 h4
theorem wpList_append_M {ops : Array Oper} {rest : List Oper} {o : Oper} {a : Act} {Q : Exit → Act → World → Prop} (hgd : o.guard = none) (s x : Operand) (t : TypeId)
    (ho : o.op = .call { callee := .builtin .append, args := #[s, x], argTypes := #[t, t] })
    (i : TypeInfo) (z : Value) (bytes : Nat) (ht : P.underlying t = some (.slice e)) (hi : P.info? e = some i) (hz : i.zero = some z)
    (hsize : i.size = size) (hby : i.bytes = bytes) (hzs : z.cells.size = size) (hs : a.eval s = .slice A n c) (hx : a.eval x = .slice B m d)
    (hown : OwnS w e size A n c xs fp) (hr : Rd w size B m ys) (h1 : ∀ u ∈ ys, u.oneCell' = true)
    (hn : n + m ≤ 1000000000000) (hbytes : bytes ≤ 100)
    (h : ∀ A' c' w' fp', OwnS w' e size A' (n + m) c' (xs ++ ys) fp' → (∀ g ∈ fp', g ∈ fp ∨ w.heap.size = g) → Keep fp w w' → wpList P ops Q rest (a.put o.dst (.slice A' (n + m) c')) w') : wpList P ops Q (o :: rest) a w :=
  wpList_plain hgd fun _ hK => wp_append_M s x t ho i z bytes ht hi hz hsize hby hzs hs hx hown hr h1 hn hbytes fun A' c' w' fp' h2 h3 h4 => hK _ _ (h A' c' w' fp' h2 h3 h4)
end
def CloneS (w : World) (e : TypeId) (size n : Nat) (xs : List Value) (r : Ending) (w' : World) : Prop :=
  ∃ A c q, r = .returned (.slice A n c) ∧ OwnS w' e size A n c xs q ∧ (∀ g ∈ q, w.heap.size ≤ g) ∧ Below w.heap.size w w'
end Go.Proofs.YtalcinepeofmcaaGreat
namespace Go.Proofs.YtalcinepeofmcaaGreat
open Go Go.RowKit Sp
theorem infoChn : (Tryz.prog.info? 99).map (fun i => (i.zero, i.size, i.bytes)) = some (some (.agg #[.int .i64 0, .int .i64 0, .int .i64 0]), 3, 24) := by kernel_rfl
theorem infoBrt : (Tryz.prog.info? 83).map (fun i => (i.zero, i.size, i.bytes)) = some (some (.agg #[.int .i64 0, .slice none 0 0]), 2, 32) := by kernel_rfl
theorem infoPtI : (Tryz.prog.info? 3).map (fun i => (i.zero, i.size, i.bytes)) = some (some (.int .i64 0), 1, 8) := by kernel_rfl
theorem clonePtI_any (A : Option Addr) (n c : Nat) (xs : List Value) (w : World) (hr : Rd w 1 A n xs) (h1 : ∀ u ∈ xs, u.oneCell' = true) (hc : A = none → n = 0 ∧ c = 0) (hl : n ≤ 100000000) :
    Calls Tryz.prog 75 #[.slice A n c] w (CloneS w 3 1 n xs) := by
  obtain ⟨i0, hi, hz0, hz1, hz2⟩ := info_parts infoPtI;have hnil := fun (w : World) (a : Option Addr) (n c : Nat) => Lib.run_eql_slice_nil (P := Tryz.prog) w 36 3 a n c 0 0 Tryz.underlying36;cases A with
  | none =>
    obtain ⟨rfl, rfl⟩ := hc rfl;obtain rfl : xs = [] := List.eq_nil_of_length_eq_zero (by have := hr.1; omega)
    go_enter Tryz.func75, Tryz.ntmps75
    go_wp2_with fail
    go_ret;exact ⟨none, 0, [], rfl, OwnS.nil _ _ _, by simp, Below.refl _ _⟩
  | some ad =>
    have HR := Lib.hid (And.intro hr h1);clear hr hc h1
    go_enter Tryz.func75, Tryz.ntmps75
    go_wp2_with (at_builtin
                 refine wpList_append_M rfl (.tmp 5) (.tmp 6) 36 rfl i0 _ 8 Tryz.underlying36 hi hz0 hz1 hz2 rfl (A := some ⟨w.heap.size, 0, none⟩) (n := 0) (c := 0) (B := some ad) (m := n) (d := c) (xs := []) (fp := [w.heap.size]) (ys := xs) (by simp [Act.eval]) (by simp [Act.eval]) ⟨by simp, .inr ⟨_, _, rfl, rfl, heap_alloc_new w _, by omega, by omega, rfl, by simp⟩⟩ (HR.out.1.below ((Below.refl _ _).alloc (Nat.le_refl _) _)) HR.out.2 (by omega) (by omega) ?_;intro A' c' w' fp' h1 h2 h3;have HQ := Lib.hid (And.intro h1 (And.intro h2 h3));clear h1 h2 h3)
    go_ret;obtain ⟨h1, h2, h3⟩ := HQ.out;refine ⟨A', c', fp', by simp, by simpa using h1, fun g hg => ?_, ((Below.refl w.heap.size w).alloc (Nat.le_refl _) _).trans (h3.below (by simp) (by simp))⟩;rcases h2 g hg with h | h
    · simp at h; omega
    · simp at h; omega
theorem infoPtB : (Tryz.prog.info? 4).map (fun i => (i.zero, i.size, i.bytes)) = some (some (.bool false), 1, 1) := by kernel_rfl
theorem clonePtB_any (A : Option Addr) (n c : Nat) (xs : List Value) (w : World) (hr : Rd w 1 A n xs) (h1 : ∀ u ∈ xs, u.oneCell' = true) (hc : A = none → n = 0 ∧ c = 0) (hl : n ≤ 100000000) :
    Calls Tryz.prog 76 #[.slice A n c] w (CloneS w 4 1 n xs) := by
  obtain ⟨i0, hi, hz0, hz1, hz2⟩ := info_parts infoPtB;have hnil := fun (w : World) (a : Option Addr) (n c : Nat) => Lib.run_eql_slice_nil (P := Tryz.prog) w 37 4 a n c 0 0 Tryz.underlying37;cases A with
  | none =>
    obtain ⟨rfl, rfl⟩ := hc rfl;obtain rfl : xs = [] := List.eq_nil_of_length_eq_zero (by have := hr.1; omega)
    go_enter Tryz.func76, Tryz.ntmps76
    go_wp2_with fail
    go_ret;exact ⟨none, 0, [], rfl, OwnS.nil _ _ _, by simp, Below.refl _ _⟩
  | some ad =>
    have HR := Lib.hid (And.intro hr h1);clear hr hc h1
    go_enter Tryz.func76, Tryz.ntmps76
    go_wp2_with (at_builtin
                 refine wpList_append_M rfl (.tmp 5) (.tmp 6) 37 rfl i0 _ 1 Tryz.underlying37 hi hz0 hz1 hz2 rfl (A := some ⟨w.heap.size, 0, none⟩) (n := 0) (c := 0) (B := some ad) (m := n) (d := c) (xs := []) (fp := [w.heap.size]) (ys := xs) (by simp [Act.eval]) (by simp [Act.eval]) ⟨by simp, .inr ⟨_, _, rfl, rfl, heap_alloc_new w _, by omega, by omega, rfl, by simp⟩⟩ (HR.out.1.below ((Below.refl _ _).alloc (Nat.le_refl _) _)) HR.out.2 (by omega) (by omega) ?_;intro A' c' w' fp' h1 h2 h3;have HQ := Lib.hid (And.intro h1 (And.intro h2 h3));clear h1 h2 h3)
    go_ret;obtain ⟨h1, h2, h3⟩ := HQ.out;refine ⟨A', c', fp', by simp, by simpa using h1, fun g hg => ?_, ((Below.refl w.heap.size w).alloc (Nat.le_refl _) _).trans (h3.below (by simp) (by simp))⟩;rcases h2 g hg with h | h
    · simp at h; omega
    · simp at h; omega
theorem infoPlc : (Tryz.prog.info? 47).map (fun i => (i.zero, i.size, i.bytes)) = some (some (.agg #[.int .i64 0, .int .i64 0]), 2, 16) := by kernel_rfl
theorem clonePlc_any (A : Option Addr) (n c : Nat) (xs : List Value) (w : World) (hr : Rd w 2 A n xs) (h1 : ∀ u ∈ xs, u.oneCell' = true) (hc : A = none → n = 0 ∧ c = 0) (hl : n ≤ 100000000) :
    Calls Tryz.prog 8 #[.slice A n c] w (CloneS w 47 2 n xs) := by
  obtain ⟨i0, hi, hz0, hz1, hz2⟩ := info_parts infoPlc;have hnil := fun (w : World) (a : Option Addr) (n c : Nat) => Lib.run_eql_slice_nil (P := Tryz.prog) w 27 47 a n c 0 0 Tryz.underlying27;cases A with
  | none =>
    obtain ⟨rfl, rfl⟩ := hc rfl;obtain rfl : xs = [] := List.eq_nil_of_length_eq_zero (by have := hr.1; omega)
    go_enter Tryz.func8, Tryz.ntmps8
    go_wp2_with fail
    go_ret;exact ⟨none, 0, [], rfl, OwnS.nil _ _ _, by simp, Below.refl _ _⟩
  | some ad =>
    have HR := Lib.hid (And.intro hr h1);clear hr hc h1
    go_enter Tryz.func8, Tryz.ntmps8
    go_wp2_with (at_builtin
                 refine wpList_append_M rfl (.tmp 5) (.tmp 6) 27 rfl i0 _ 16 Tryz.underlying27 hi hz0 hz1 hz2 rfl (A := some ⟨w.heap.size, 0, none⟩) (n := 0) (c := 0) (B := some ad) (m := n) (d := c) (xs := []) (fp := [w.heap.size]) (ys := xs) (by simp [Act.eval]) (by simp [Act.eval]) ⟨by simp, .inr ⟨_, _, rfl, rfl, heap_alloc_new w _, by omega, by omega, rfl, by simp⟩⟩ (HR.out.1.below ((Below.refl _ _).alloc (Nat.le_refl _) _)) HR.out.2 (by omega) (by omega) ?_;intro A' c' w' fp' h1 h2 h3;have HQ := Lib.hid (And.intro h1 (And.intro h2 h3));clear h1 h2 h3)
    go_ret;obtain ⟨h1, h2, h3⟩ := HQ.out;refine ⟨A', c', fp', by simp, by simpa using h1, fun g hg => ?_, ((Below.refl w.heap.size w).alloc (Nat.le_refl _) _).trans (h3.below (by simp) (by simp))⟩;rcases h2 g hg with h | h
    · simp at h; omega
    · simp at h; omega
end Go.Proofs.YtalcinepeofmcaaGreat
namespace Go.Proofs.YtalcinepeofmcaaGreat
open Go Go.RowKit Sp Pt
structure WC where
  wb : Nat
  pb : Nat
  lb : Nat
  gb : Nat
  ub : Nat
  c1 : Nat
  c2 : Nat
  D : Nat
  Ac : Option Addr
  Ab : Option Addr
  Al : Option Addr
  As : Option Addr
  cc : Nat
  cb : Nat
  cl : Nat
  cs : Nat
  p : Prt
  l : Pln
abbrev wkV (c : WC) (v u : Value) : Array Value := #[.pointer (some ⟨c.pb, 0, none⟩), .pointer (some ⟨c.lb, 0, none⟩), v, u]
abbrev brV (c : WC) : Value := .slice (some ⟨c.gb, 0, none⟩) c.p.chs.length c.c1
abbrev buV (c : WC) : Value := .slice (some ⟨c.ub, 0, none⟩) c.p.bts.length c.c2
structure WcE (c : WC) (W : World) (v u : Value) : Prop where
  hw : W.heap[c.wb]? = some (.cells (wkV c v u) 135 (0, 0))
  hp : W.heap[c.pb]? = some (.cells (prtV c.Ac c.cc c.Ab c.cb c.p) 25 (0, 0))
  hl : W.heap[c.lb]? = some (.cells (plnV c.Al c.cl c.As c.cs c.l) 35 (0, 0))
  PB : PrtB c.D W c.Ac c.cc c.Ab c.cb c.p
  LB : PlnB c.D W c.Al c.cl c.As c.cs c.l
  hD : c.D ≤ W.heap.size
structure WcN (c : WC) : Prop where
  ne : c.gb ≠ c.ub
  g : c.gb ≠ c.wb ∧ c.gb ≠ c.pb ∧ c.gb ≠ c.lb ∧ c.D ≤ c.gb
  u : c.ub ≠ c.wb ∧ c.ub ≠ c.pb ∧ c.ub ≠ c.lb ∧ c.D ≤ c.ub
structure WkS (c : WC) (W w : World) (s : Stt) : Prop where
  kp : Keep [c.gb, c.ub] W w
  br : OwnS w 3 1 (some ⟨c.gb, 0, none⟩) c.p.chs.length c.c1 (ints s.brash) [c.gb]
  bu : OwnS w 4 1 (some ⟨c.ub, 0, none⟩) c.p.bts.length c.c2 (bools s.busy) [c.ub]
section
variable {c : WC} {W w w' : World} {s : Stt} {v u : Value}
theorem WcE.keep (h : WcE c W v u) {S : List Nat} (hk : Keep S W w) (hS : ∀ x ∈ S, x ≠ c.wb ∧ x ≠ c.pb ∧ x ≠ c.lb ∧ c.D ≤ x) : WcE c w v u := by
  have hd : Below c.D W w := hk.below h.hD (fun x hx => (hS x hx).2.2.2);exact ⟨(hk.block _ (hL_ h.hw) (fun hm => (hS _ hm).1 rfl)).trans h.hw, (hk.block _ (hL_ h.hp) (fun hm => (hS _ hm).2.1 rfl)).trans h.hp, (hk.block _ (hL_ h.hl) (fun hm => (hS _ hm).2.2.1 rfl)).trans h.hl, h.PB.below hd, h.LB.below hd, Nat.le_trans h.hD hk.size⟩
theorem WcE.below (h : WcE c W v u) (hb : Below W.heap.size W w) : WcE c w v u := h.keep (S := []) (Keep.of_below hb) (by simp)
theorem WcE.at (h : WcE c W v u) (n : WcN c) (S : WkS c W w s) : WcE c w v u := h.keep S.kp (by simp; exact ⟨n.g, n.u⟩)
theorem WcE.cells (h : WcE c W v u) : W.cell? ⟨c.wb, 0, none⟩ = some (.pointer (some ⟨c.pb, 0, none⟩)) ∧ W.cell? ⟨c.wb, 1, none⟩ = some (.pointer (some ⟨c.lb, 0, none⟩)) ∧ W.cell? ⟨c.wb, 2, none⟩ = some v ∧ W.cell? ⟨c.wb, 3, none⟩ = some u ∧
    W.cell? ⟨c.pb, 0, none⟩ = some (.slice c.Ac c.p.chs.length c.cc) ∧ W.cell? ⟨c.pb, 1, none⟩ = some (.slice c.Ab c.p.bts.length c.cb) ∧
    W.cell? ⟨c.lb, 0, none⟩ = some (.int .i64 c.l.hours) ∧ W.cell? ⟨c.lb, 1, none⟩ = some (.slice c.Al c.l.calls.length c.cl) ∧ W.cell? ⟨c.lb, 2, none⟩ = some (.slice c.As c.l.swps.length c.cs) ∧
    c.wb < W.heap.size ∧ c.pb < W.heap.size ∧ c.lb < W.heap.size :=
  ⟨(cOH h.hw 0).trans rfl, (cOH h.hw 1).trans rfl, (cOH h.hw 2).trans rfl, (cOH h.hw 3).trans rfl, (cOH h.hp 0).trans rfl, (cOH h.hp 1).trans rfl, (cOH h.hl 0).trans rfl, (cOH h.hl 1).trans rfl, (cOH h.hl 2).trans rfl, hL_ h.hw, hL_ h.hp, hL_ h.hl⟩
theorem WkS.start (h : WkS c W w s) : WkS c w w s := ⟨Keep.refl _ _, h.br, h.bu⟩
theorem WkS.after {s' : Stt} (h : WkS c W w s) (h' : WkS c w w' s') : WkS c W w' s' := ⟨h.kp.trans h'.kp (by simp), h'.br, h'.bu⟩
theorem WkS.below (h : WkS c W w s) (hb : Below w.heap.size w w') : WkS c W w' s :=
  ⟨h.kp.trans (Keep.of_below (S := []) hb) (by simp), h.br.keepS (Keep.of_below (S := []) hb) (by simp), h.bu.keepS (Keep.of_below (S := []) hb) (by simp)⟩
theorem WkS.alloc (h : WkS c W w s) (o : Obj) : WkS c W (w.alloc o) s := h.below ((Below.refl _ _).alloc (Nat.le_refl _) _)
theorem WkS.len (h : WkS c W w s) : s.brash.length = c.p.chs.length ∧ s.busy.length = c.p.bts.length := by
  have h1 := h.br.1; have h2 := h.bu.1;simp [ints] at h1;simp [bools] at h2;exact ⟨h1, h2⟩
theorem OwnS.one {e : TypeId} {A : Option Addr} {n c : Nat} {xs : List Value} {q : List Nat} {g : Nat} (h : OwnS w e 1 (some ⟨g, 0, none⟩) n c xs q) : g < w.heap.size ∧ (∀ j u, xs[j]? = some u → w.cell? ⟨g, j, none⟩ = some u) ∧ ∀ j, w.frozen? ⟨g, j, none⟩ = false := by
  rcases h.2 with ⟨h0, _⟩ | ⟨g', cur, h1, h2, h3, h4, h5, h6, h7⟩
  · cases h0
  · injection h1 with h1
    injection h1 with h1 _ _
    subst h1;exact ⟨hL_ h3, fun j u hu => (cOH h3 _).trans (h7 j u hu), fun j => fOH h3 j⟩
theorem OwnS.set1 {e : TypeId} {n c : Nat} {xs : List Value} {q : List Nat} {g : Nat} (h : OwnS w e 1 (some ⟨g, 0, none⟩) n c xs q) (k : Nat) (hk : k < n) (u : Value) : OwnS (w.setCell ⟨g, k, none⟩ u) e 1 (some ⟨g, 0, none⟩) n c (xs.set k u) q := by
  refine ⟨by rw [List.length_set, h.1], .inr ?_⟩;rcases h.2 with ⟨h0, _⟩ | ⟨g', cur, h1, h2, h3, h4, h5, h6, h7⟩
  · cases h0
  · injection h1 with h1
    injection h1 with h1 _ _
    subst h1;refine ⟨g, cur.setIfInBounds k u, rfl, h2, hS_ h3 _ _, h4, h5, by simpa using h6, fun j v hv => ?_⟩;rw [List.getElem?_set] at hv;by_cases e : k = j
    · subst e;rw [if_pos rfl] at hv;split at hv
      · injection hv with hv
        subst hv;rw [Array.getElem?_setIfInBounds_self_of_lt (by omega)]
      · cases hv
    · rw [if_neg e] at hv;rw [Array.getElem?_setIfInBounds_ne e];exact h7 j v hv
theorem WkS.setBr (h : WkS c W w s) (n : WcN c) {k : Nat} (x : Int) (hk : k < c.p.chs.length) : WkS c W (w.setCell ⟨c.gb, k, none⟩ (.int .i64 x)).drew ⟨setI s.brash k x, s.busy⟩ := by
  refine ⟨(h.kp.setCell (.inl (by simp)) _).drew, ?_, ?_⟩
  · have := h.br.set1 k hk (.int .i64 x);rw [show (ints s.brash).set k (.int .i64 x) = ints (setI s.brash k x) from by simp [ints, setI, List.map_set]] at this;exact this.drewN 1
  · exact (h.bu.setCell (p := ⟨c.gb, k, none⟩) (by simpa using n.ne) _).drewN 1
theorem WkS.setBu (h : WkS c W w s) (n : WcN c) {k : Nat} (x : Bool) (hk : k < c.p.bts.length) : WkS c W (w.setCell ⟨c.ub, k, none⟩ (.bool x)).drew ⟨s.brash, s.busy.set k x⟩ := by
  refine ⟨(h.kp.setCell (.inl (by simp)) _).drew, ?_, ?_⟩
  · exact (h.br.setCell (p := ⟨c.ub, k, none⟩) (by simpa using n.ne.symm) _).drewN 1
  · have := h.bu.set1 k hk (.bool x);rw [show (bools s.busy).set k (.bool x) = bools (s.busy.set k x) from by simp [bools, List.map_set]] at this;exact this.drewN 1
theorem WkS.brAt (h : WkS c W w s) {k : Nat} (hk : k < c.p.chs.length) : w.cell? ⟨c.gb, k, none⟩ = some (.int .i64 (getI s.brash k)) := by
  have := (h.br.one (A := none)).2.1 k _ (iG_ (by rw [h.len.1]; exact hk));rw [this]; simp [getI]
theorem WkS.buAt (h : WkS c W w s) {k : Nat} (hk : k < c.p.bts.length) : w.cell? ⟨c.ub, k, none⟩ = some (.bool (s.busy.getD k false)) := (h.bu.one (A := none)).2.1 k _ (bools_get (by rw [h.len.2]; exact hk))
theorem chAt {W : World} {D : Nat} {p : Prt} {Ac Ab : Option Addr} {cc cb : Nat} (h : PrtB D W Ac cc Ab cb p) {k : Nat} (hk : k < p.chs.length) : ∃ b off, Ac = some ⟨b, off, none⟩ ∧ b < D ∧ W.cell? ⟨b, off + k * 3, none⟩ = some (.int .i64 (ch p k).grow) ∧ W.cell? ⟨b, off + k * 3 + 1, none⟩ = some (.int .i64 (ch p k).frost) ∧ W.cell? ⟨b, off + k * 3 + 2, none⟩ = some (.int .i64 (ch p k).clear) := by
  obtain ⟨b, off, e, hb, hc⟩ := h.chs.2 (by omega);obtain ⟨g0, g1, g2⟩ := chcs_get hk;have e2 : p.chs[k] = ch p k := by simp [ch, hk]
  rw [e2] at g0 g1 g2;exact ⟨b, off, e, hb, hc _ _ g0, hc _ _ g1, hc _ _ g2⟩
end
def brR (B : Int) (b : List Int) : Prop := ∀ c, -B ≤ getI b c ∧ getI b c ≤ B
def SwV (W0 : World) (wb xb gb pb bc oc n c1 cc k : Nat) (x tg cr z : Int) : Nat → Value → Prop
  | 0, v => v = .pointer (some ⟨wb, 0, none⟩)
  | 1, v => v = .pointer (some ⟨wb, 0, none⟩)
  | 2, v => v = .pointer (some ⟨wb, 2, none⟩)
  | 3, v => v = .slice (some ⟨gb, 0, none⟩) n c1
  | 4, v => v = .pointer (some ⟨xb, 1, none⟩)
  | 5, v => v = .int .i64 k
  | 6, v => v = .pointer (some ⟨wb, 0, none⟩)
  | 7, v => v = .pointer (some ⟨wb, 0, none⟩)
  | 8, v => v = .pointer (some ⟨wb, 2, none⟩)
  | 9, v => v = .slice (some ⟨gb, 0, none⟩) n c1
  | 10, v => v = .pointer (some ⟨xb, 1, none⟩)
  | 11, v => v = .int .i64 k
  | 12, v => v = .pointer (some ⟨gb, k, none⟩)
  | 13, v => v = .int .i64 x
  | 14, v => v = .pointer (some ⟨xb, 2, none⟩)
  | 15, v => v = .int .i64 tg
  | 16, v => v = .pointer (some ⟨wb, 0, none⟩)
  | 17, v => v = .pointer (some ⟨wb, 0, none⟩)
  | 18, v => v = .pointer (some ⟨wb, 0, none⟩)
  | 19, v => v = .pointer (some ⟨pb, 0, none⟩)
  | 20, v => v = .pointer (some ⟨pb, 0, none⟩)
  | 21, v => v = .pointer (some ⟨pb, 0, none⟩)
  | 22, v => v = .slice (some ⟨bc, oc, none⟩) n cc
  | 23, v => v = .pointer (some ⟨xb, 1, none⟩)
  | 24, v => v = .int .i64 k
  | 25, v => v = .pointer (some ⟨bc, oc + k * 3, none⟩)
  | 26, v => v = .pointer (some ⟨bc, oc + k * 3 + 2, none⟩)
  | 27, v => v = .int .i64 cr
  | 28, v => v = .int .i64 (tg * cr)
  | 29, v => v = .int .i64 (x - (tg * cr))
  | 30, v => v = .int .i64 z
  | 31, v => v = .pointer (some ⟨gb, k, none⟩)
  | _, _ => True
def SwW (W0 : World) (wb xb gb pb bc oc n c1 cc k : Nat) (x tg cr z : Int) (l : Nat → Bool) (w : World) : Prop := if l 32 then w = (W0.setCell ⟨gb, k, none⟩ (.int .i64 z)).drew else w = W0.drew
theorem swR {c : WC} {W0 wr : World} {L i : Nat} {h : Int} {s : Stt} (E : WcE c W0 (brV c) (buV c)) (N : WcN c) (S : WkS c W0 wr s) (hL : c.l.swps.length = L) (hi : i < L) (hL2 : L ≤ 1000) (hc : 0 ≤ (c.l.swps.getD i default).channel ∧ (c.l.swps.getD i default).channel < c.p.chs.length ∧ 0 ≤ (c.l.swps.getD i default).tugs ∧ (c.l.swps.getD i default).tugs ≤ 20) (hcl : ∀ x ∈ c.p.chs, 0 ≤ x.clear ∧ x.clear ≤ 200) (hcn : c.p.chs.length ≤ 1000) (hbr : brR 100000000000 s.brash) {s2 s3 s4 s5 s6 s7 s8 s9 s10 s11 s15 s16 s17 s18 s19 s20 s21 s22 s23 s24 s25 s26 s27 s28 s29 s30 s31 s32 s33 s34 s35 s36 s37 s38 s39 s40 s41 s42 s43 s44 s45 s46 s47 s48 s49 s50 s51 s52 s53 s54 : Value} {Q0 : Exit → Act → World → Prop} {Inv : Act → World → Prop}
    (hInv : ∀ (t5 t15 t16 t17 t18 t19 t20 t21 t22 t23 t24 t25 t26 t27 t28 t29 t30 t31 t32 t33 t34 t35 t36 t37 t38 t39 t40 t41 t42 t43 t44 t45 t46 t47 t48 t49 t50 t51 t52 t53 t54 : Value)  (w' : World), WkS c W0 w' ⟨swp1 c.p h s.brash (c.l.swps.getD i default), s.busy⟩ → Inv ⟨#[.pointer (some ⟨c.wb, 0, none⟩), .int .i64 h, s2, s3, s4, t5, s6, s7, s8, s9, s10, s11, .slice c.As L c.cs, .int .i64 L, .int .i64 ((i + 1 : Nat) : Int), t15, t16, t17, t18, t19, t20, t21, t22, t23, t24, t25, t26, t27, t28, t29, t30, t31, t32, t33, t34, t35, t36, t37, t38, t39, t40, t41, t42, t43, t44, t45, t46, t47, t48, t49, t50, t51, t52, t53, t54], []⟩ w') :
    Code.wp Tryz.prog (loopBody Tryz.f77 0) (Exit.then Inv Q0) ⟨#[.pointer (some ⟨c.wb, 0, none⟩), .int .i64 h, s2, s3, s4, s5, s6, s7, s8, s9, s10, s11, .slice c.As L c.cs, .int .i64 L, .int .i64 i, s15, s16, s17, s18, s19, s20, s21, s22, s23, s24, s25, s26, s27, s28, s29, s30, s31, s32, s33, s34, s35, s36, s37, s38, s39, s40, s41, s42, s43, s44, s45, s46, s47, s48, s49, s50, s51, s52, s53, s54], []⟩ wr := by
  conv => arg 2; whnf
  have hg : c.l.swps[i]'(by omega) = c.l.swps.getD i default := by simp [List.getD_eq_getElem?_getD, List.getElem?_eq_getElem (show i < c.l.swps.length by omega)]
  generalize c.l.swps.getD i default = x0 at *;have Er := E.at N S;obtain ⟨bs, os, eAs, hbs, hcc⟩ := Er.LB.swps.2 (by omega);obtain ⟨g0, g1, g2⟩ := swcs_get (l := c.l.swps) (k := i) (by omega);rw [hg] at g0 g1 g2;obtain ⟨ho, cn, tg⟩ := x0;simp only at g0 g1 g2 hc;obtain ⟨hc0, hc1, tg0, tg1⟩ := hc;obtain ⟨k, rfl⟩ := Int.eq_ofNat_of_zero_le hc0;have hk : k < c.p.chs.length := by omega
  have d0 := hcc _ _ g0;have d1 : wr.cell? ⟨bs, os + i * 3 + 1, none⟩ = _ := hcc _ _ g1;have d2 : wr.cell? ⟨bs, os + i * 3 + 2, none⟩ = _ := hcc _ _ g2;have zs := World.block_lt_of_cell? _ _ d0;obtain ⟨W2, hW2⟩ : ∃ W2, W2 = wr.alloc (.cells #[.int .i64 ho, .int .i64 k, .int .i64 tg] 126) := ⟨_, rfl⟩;obtain ⟨xb, hxb⟩ : ∃ xb, xb = wr.heap.size := ⟨_, rfl⟩;have hxh : W2.heap[xb]? = some (.cells #[.int .i64 ho, .int .i64 k, .int .i64 tg] 126 (0, 0)) := by rw [hW2, hxb]; exact heap_alloc_new _ _
  have S2 : WkS c W0 W2 s := by rw [hW2]; exact S.alloc _
  have E2 := E.at N S2;obtain ⟨bc, oc, eAc, hbc, h0, h1, q5⟩ := chAt E2.PB hk;obtain ⟨q1, _, q2, _, q3, _, _, _, _, z1, z2, _⟩ := E2.cells;have q4 := S2.brAt hk;have q6 := (S2.br.one (A := none)).2.2 k;have z3 := (S2.br.one (A := none)).1;have x0' : W2.cell? ⟨xb, 0, none⟩ = some (.int .i64 ho) := (cOH hxh 0).trans rfl;have x1 : W2.cell? ⟨xb, 1, none⟩ = some (.int .i64 k) := (cOH hxh 1).trans rfl;have x2 : W2.cell? ⟨xb, 2, none⟩ = some (.int .i64 tg) := (cOH hxh 2).trans rfl;have zx := hL_ hxh;obtain ⟨cr, hcr⟩ : ∃ cr, cr = (ch c.p k).clear := ⟨_, rfl⟩;obtain ⟨x, hx⟩ : ∃ x, x = getI s.brash k := ⟨_, rfl⟩;have hxr := hbr k;rw [← hcr] at q5;rw [← hx] at q4 hxr;have hcrr : 0 ≤ cr ∧ cr ≤ 200 := by rw [hcr]; exact hcl _ (ch_mem (by omega) (by omega))
  have hmul : 0 ≤ tg * cr ∧ tg * cr ≤ 4000 := ⟨Int.mul_nonneg tg0 hcrr.1, by have := Int.mul_le_mul tg1 hcrr.2 hcrr.1 (by omega : (0 : Int) ≤ 20); omega⟩;obtain ⟨z, hz⟩ : ∃ z, z = max 0 (x - tg * cr) := ⟨_, rfl⟩;have HZ := Lib.hid hz;have zc := World.block_lt_of_cell? _ _ q5;rw [eAs] at hInv ⊢;have HI := Lib.hid hInv;have HS := Lib.hid (And.intro S2 (And.intro hcr hx));have n1 : (i : Int) < (L : Int) := by omega
  have k1 : (0 : Int) ≤ (k : Int) := by omega
  have k2 : (k : Int) < (c.p.chs.length : Int) := by omega
  rw [eAc] at q3;clear hInv S S2 E Er E2 hxh hcc hcr hx hbr hcl h0 h1 eAs eAc hbc hbs g0 g1 g2 hg hz;by_cases hh : ho = h
  · subst hh;go_upto_region 4 with fail
    rw [← hW2, ← hxb];clear hW2 hxb d0 d1 d2 zs;refine wRS (σ := Unit) (by kernel_rfl) (by kernel_rfl) (fun _ jx vx _ => SwV W2 c.wb xb c.gb c.pb bc oc c.p.chs.length c.c1 c.cc k x tg cr z jx vx) (fun _ ly wx => SwW W2 c.wb xb c.gb c.pb bc oc c.p.chs.length c.c1 c.cc k x tg cr z ly wx) () ?_ ?_ ?_
    · exact (by unfold SwW; rw [if_neg (by simp)])
    · simp only [AllFrom, Nat.zero_add, Nat.reduceAdd];refine ⟨?_, ?_, ?_, ?_, ?_, ?_, ?_, ?_, ?_, ?_, ?_, ?_, ?_, ?_, ?_, ?_, ?_, ?_, ?_, ?_, ?_, ?_, ?_, ?_, ?_, ?_, ?_, ?_, ?_, ?_, ?_, ?_, ?_, trivial⟩
      · refine sP_ fun sg ly a wr hl hd hW hF => ?_;have et0 := hF.old 0 (by kernel_rfl);simp [Act.eval] at et0;exact ⟨by simpa [SwW, upd] using hW, .pointer (some ⟨c.wb, 0, none⟩), by go_simp, rfl⟩
      · refine sP_ fun sg ly a wr hl hd hW hF => ?_;simp [Region.binds] at hd;have et22 := hF.new 0 22 (by simp [hd]) rfl;simp [SwV, Act.eval] at et22;exact ⟨by simpa [SwW, upd] using hW, .pointer (some ⟨c.wb, 0, none⟩), by go_simp, rfl⟩
      · refine sP_ fun sg ly a wr hl hd hW hF => ?_;simp [Region.binds] at hd;have et23 := hF.new 1 23 (by simp [hd]) rfl;simp [SwV, Act.eval] at et23;exact ⟨by simpa [SwW, upd] using hW, .pointer (some ⟨c.wb, 2, none⟩), by go_simp, rfl⟩
      · refine sP_ fun sg ly a wr hl hd hW hF => ?_;simp [Region.binds] at hd;have et24 := hF.new 2 24 (by simp [hd]) rfl;simp [SwV, Act.eval] at et24;have nL_31 := hF.notYet 3 31 hl (by kernel_rfl);have nL := hF.notYet 31 32 nL_31 (by kernel_rfl);have hW' := hW;unfold SwW at hW';rw [if_neg (by simp [nL])] at hW';subst hW';exact ⟨by unfold SwW; rw [if_neg (by simp [upd, nL])], _, by go_simp, rfl⟩
      · refine sP_ fun sg ly a wr hl hd hW hF => ?_;have et5 := hF.old 5 (by kernel_rfl);simp [Act.eval] at et5;exact ⟨by simpa [SwW, upd] using hW, .pointer (some ⟨xb, 1, none⟩), by go_simp, rfl⟩
      · refine sP_ fun sg ly a wr hl hd hW hF => ?_;simp [Region.binds] at hd;have et26 := hF.new 4 26 (by simp [hd]) rfl;simp [SwV, Act.eval] at et26;have nL_31 := hF.notYet 5 31 hl (by kernel_rfl);have nL := hF.notYet 31 32 nL_31 (by kernel_rfl);have hW' := hW;unfold SwW at hW';rw [if_neg (by simp [nL])] at hW';subst hW';exact ⟨by unfold SwW; rw [if_neg (by simp [upd, nL])], _, by go_simp, rfl⟩
      · refine sP_ fun sg ly a wr hl hd hW hF => ?_;have et0 := hF.old 0 (by kernel_rfl);simp [Act.eval] at et0;exact ⟨by simpa [SwW, upd] using hW, .pointer (some ⟨c.wb, 0, none⟩), by go_simp, rfl⟩
      · refine sP_ fun sg ly a wr hl hd hW hF => ?_;simp [Region.binds] at hd;have et28 := hF.new 6 28 (by simp [hd]) rfl;simp [SwV, Act.eval] at et28;exact ⟨by simpa [SwW, upd] using hW, .pointer (some ⟨c.wb, 0, none⟩), by go_simp, rfl⟩
      · refine sP_ fun sg ly a wr hl hd hW hF => ?_;simp [Region.binds] at hd;have et29 := hF.new 7 29 (by simp [hd]) rfl;simp [SwV, Act.eval] at et29;exact ⟨by simpa [SwW, upd] using hW, .pointer (some ⟨c.wb, 2, none⟩), by go_simp, rfl⟩
      · refine sP_ fun sg ly a wr hl hd hW hF => ?_;simp [Region.binds] at hd;have et30 := hF.new 8 30 (by simp [hd]) rfl;simp [SwV, Act.eval] at et30;have nL_12 := hF.notYet 9 12 hl (by kernel_rfl);have nL_13 := hF.notYet 12 13 nL_12 (by kernel_rfl);have nL_29 := hF.notYet 13 29 nL_13 (by kernel_rfl);have nL_30 := hF.notYet 29 30 nL_29 (by kernel_rfl);have nL := hF.notYet 30 32 nL_30 (by kernel_rfl);have hW' := hW;unfold SwW at hW';rw [if_neg (by simp [nL])] at hW';subst hW';exact ⟨by unfold SwW; rw [if_neg (by simp [upd, nL])], _, by go_simp, rfl⟩
      · refine sP_ fun sg ly a wr hl hd hW hF => ?_;have et5 := hF.old 5 (by kernel_rfl);simp [Act.eval] at et5;exact ⟨by simpa [SwW, upd] using hW, .pointer (some ⟨xb, 1, none⟩), by go_simp, rfl⟩
      · refine sP_ fun sg ly a wr hl hd hW hF => ?_;simp [Region.binds] at hd;have et32 := hF.new 10 32 (by simp [hd]) rfl;simp [SwV, Act.eval] at et32;have nL_12 := hF.notYet 11 12 hl (by kernel_rfl);have nL_13 := hF.notYet 12 13 nL_12 (by kernel_rfl);have nL_29 := hF.notYet 13 29 nL_13 (by kernel_rfl);have nL_30 := hF.notYet 29 30 nL_29 (by kernel_rfl);have nL := hF.notYet 30 32 nL_30 (by kernel_rfl);have hW' := hW;unfold SwW at hW';rw [if_neg (by simp [nL])] at hW';subst hW';exact ⟨by unfold SwW; rw [if_neg (by simp [upd, nL])], _, by go_simp, rfl⟩
      · refine sP_ fun sg ly a wr hl hd hW hF => ?_;simp [Region.binds] at hd;have et31 := hF.new 9 31 (by simp [hd]) rfl;simp [SwV, Act.eval] at et31;have et33 := hF.new 11 33 (by simp [hd]) rfl;simp [SwV, Act.eval] at et33;exact ⟨by simpa [SwW, upd] using hW, .pointer (some ⟨c.gb, k, none⟩), by go_simp, rfl⟩
      · refine sP_ fun sg ly a wr hl hd hW hF => ?_;simp [Region.binds] at hd;have et34 := hF.new 12 34 (by simp [hd]) rfl;simp [SwV, Act.eval] at et34;have nL_29 := hF.notYet 13 29 hl (by kernel_rfl);have nL_30 := hF.notYet 29 30 nL_29 (by kernel_rfl);have nL := hF.notYet 30 32 nL_30 (by kernel_rfl);have hW' := hW;unfold SwW at hW';rw [if_neg (by simp [nL])] at hW';subst hW';exact ⟨by unfold SwW; rw [if_neg (by simp [upd, nL])], _, by go_simp, rfl⟩
      · refine sP_ fun sg ly a wr hl hd hW hF => ?_;have et5 := hF.old 5 (by kernel_rfl);simp [Act.eval] at et5;exact ⟨by simpa [SwW, upd] using hW, .pointer (some ⟨xb, 2, none⟩), by go_simp, rfl⟩
      · refine sP_ fun sg ly a wr hl hd hW hF => ?_;simp [Region.binds] at hd;have et36 := hF.new 14 36 (by simp [hd]) rfl;simp [SwV, Act.eval] at et36;have nL_28 := hF.notYet 15 28 hl (by kernel_rfl);have nL_29 := hF.notYet 28 29 nL_28 (by kernel_rfl);have nL_30 := hF.notYet 29 30 nL_29 (by kernel_rfl);have nL := hF.notYet 30 32 nL_30 (by kernel_rfl);have hW' := hW;unfold SwW at hW';rw [if_neg (by simp [nL])] at hW';subst hW';exact ⟨by unfold SwW; rw [if_neg (by simp [upd, nL])], _, by go_simp, rfl⟩
      · refine sP_ fun sg ly a wr hl hd hW hF => ?_;have et0 := hF.old 0 (by kernel_rfl);simp [Act.eval] at et0;exact ⟨by simpa [SwW, upd] using hW, .pointer (some ⟨c.wb, 0, none⟩), by go_simp, rfl⟩
      · refine sP_ fun sg ly a wr hl hd hW hF => ?_;simp [Region.binds] at hd;have et38 := hF.new 16 38 (by simp [hd]) rfl;simp [SwV, Act.eval] at et38;exact ⟨by simpa [SwW, upd] using hW, .pointer (some ⟨c.wb, 0, none⟩), by go_simp, rfl⟩
      · refine sP_ fun sg ly a wr hl hd hW hF => ?_;simp [Region.binds] at hd;have et39 := hF.new 17 39 (by simp [hd]) rfl;simp [SwV, Act.eval] at et39;exact ⟨by simpa [SwW, upd] using hW, .pointer (some ⟨c.wb, 0, none⟩), by go_simp, rfl⟩
      · refine sP_ fun sg ly a wr hl hd hW hF => ?_;simp [Region.binds] at hd;have et40 := hF.new 18 40 (by simp [hd]) rfl;simp [SwV, Act.eval] at et40;have nL_20 := hF.notYet 19 20 hl (by kernel_rfl);have nL_21 := hF.notYet 20 21 nL_20 (by kernel_rfl);have nL_22 := hF.notYet 21 22 nL_21 (by kernel_rfl);have nL_25 := hF.notYet 22 25 nL_22 (by kernel_rfl);have nL_26 := hF.notYet 25 26 nL_25 (by kernel_rfl);have nL_27 := hF.notYet 26 27 nL_26 (by kernel_rfl);have nL_28 := hF.notYet 27 28 nL_27 (by kernel_rfl);have nL_29 := hF.notYet 28 29 nL_28 (by kernel_rfl);have nL_30 := hF.notYet 29 30 nL_29 (by kernel_rfl);have nL := hF.notYet 30 32 nL_30 (by kernel_rfl);have hW' := hW;unfold SwW at hW';rw [if_neg (by simp [nL])] at hW';subst hW';exact ⟨by unfold SwW; rw [if_neg (by simp [upd, nL])], _, by go_simp, rfl⟩
      · refine sP_ fun sg ly a wr hl hd hW hF => ?_;simp [Region.binds] at hd;have et41 := hF.new 19 41 (by simp [hd]) rfl;simp [SwV, Act.eval] at et41;exact ⟨by simpa [SwW, upd] using hW, .pointer (some ⟨c.pb, 0, none⟩), by go_simp, rfl⟩
      · refine sP_ fun sg ly a wr hl hd hW hF => ?_;simp [Region.binds] at hd;have et42 := hF.new 20 42 (by simp [hd]) rfl;simp [SwV, Act.eval] at et42;exact ⟨by simpa [SwW, upd] using hW, .pointer (some ⟨c.pb, 0, none⟩), by go_simp, rfl⟩
      · refine sP_ fun sg ly a wr hl hd hW hF => ?_;simp [Region.binds] at hd;have et43 := hF.new 21 43 (by simp [hd]) rfl;simp [SwV, Act.eval] at et43;have nL_25 := hF.notYet 22 25 hl (by kernel_rfl);have nL_26 := hF.notYet 25 26 nL_25 (by kernel_rfl);have nL_27 := hF.notYet 26 27 nL_26 (by kernel_rfl);have nL_28 := hF.notYet 27 28 nL_27 (by kernel_rfl);have nL_29 := hF.notYet 28 29 nL_28 (by kernel_rfl);have nL_30 := hF.notYet 29 30 nL_29 (by kernel_rfl);have nL := hF.notYet 30 32 nL_30 (by kernel_rfl);have hW' := hW;unfold SwW at hW';rw [if_neg (by simp [nL])] at hW';subst hW';exact ⟨by unfold SwW; rw [if_neg (by simp [upd, nL])], _, by go_simp, rfl⟩
      · refine sP_ fun sg ly a wr hl hd hW hF => ?_;have et5 := hF.old 5 (by kernel_rfl);simp [Act.eval] at et5;exact ⟨by simpa [SwW, upd] using hW, .pointer (some ⟨xb, 1, none⟩), by go_simp, rfl⟩
      · refine sP_ fun sg ly a wr hl hd hW hF => ?_;simp [Region.binds] at hd;have et45 := hF.new 23 45 (by simp [hd]) rfl;simp [SwV, Act.eval] at et45;have nL_25 := hF.notYet 24 25 hl (by kernel_rfl);have nL_26 := hF.notYet 25 26 nL_25 (by kernel_rfl);have nL_27 := hF.notYet 26 27 nL_26 (by kernel_rfl);have nL_28 := hF.notYet 27 28 nL_27 (by kernel_rfl);have nL_29 := hF.notYet 28 29 nL_28 (by kernel_rfl);have nL_30 := hF.notYet 29 30 nL_29 (by kernel_rfl);have nL := hF.notYet 30 32 nL_30 (by kernel_rfl);have hW' := hW;unfold SwW at hW';rw [if_neg (by simp [nL])] at hW';subst hW';exact ⟨by unfold SwW; rw [if_neg (by simp [upd, nL])], _, by go_simp, rfl⟩
      · refine sP_ fun sg ly a wr hl hd hW hF => ?_;simp [Region.binds] at hd;have et44 := hF.new 22 44 (by simp [hd]) rfl;simp [SwV, Act.eval] at et44;have et46 := hF.new 24 46 (by simp [hd]) rfl;simp [SwV, Act.eval] at et46;exact ⟨by simpa [SwW, upd] using hW, .pointer (some ⟨bc, oc + k * 3, none⟩), by go_simp, rfl⟩
      · refine sP_ fun sg ly a wr hl hd hW hF => ?_;simp [Region.binds] at hd;have et47 := hF.new 25 47 (by simp [hd]) rfl;simp [SwV, Act.eval] at et47;exact ⟨by simpa [SwW, upd] using hW, .pointer (some ⟨bc, oc + k * 3 + 2, none⟩), by go_simp, rfl⟩
      · refine sP_ fun sg ly a wr hl hd hW hF => ?_;simp [Region.binds] at hd;have et48 := hF.new 26 48 (by simp [hd]) rfl;simp [SwV, Act.eval] at et48;have nL_28 := hF.notYet 27 28 hl (by kernel_rfl);have nL_29 := hF.notYet 28 29 nL_28 (by kernel_rfl);have nL_30 := hF.notYet 29 30 nL_29 (by kernel_rfl);have nL := hF.notYet 30 32 nL_30 (by kernel_rfl);have hW' := hW;unfold SwW at hW';rw [if_neg (by simp [nL])] at hW';subst hW';exact ⟨by unfold SwW; rw [if_neg (by simp [upd, nL])], _, by go_simp, rfl⟩
      · refine sP_ fun sg ly a wr hl hd hW hF => ?_;simp [Region.binds] at hd;have et37 := hF.new 15 37 (by simp [hd]) rfl;simp [SwV, Act.eval] at et37;have et49 := hF.new 27 49 (by simp [hd]) rfl;simp [SwV, Act.eval] at et49;have ew := IntWalk.i64_in (tg * cr) (by omega);exact ⟨by simpa [SwW, upd] using hW, .int .i64 (tg * cr), by go_simp, rfl⟩
      · refine sP_ fun sg ly a wr hl hd hW hF => ?_;simp [Region.binds] at hd;have et35 := hF.new 13 35 (by simp [hd]) rfl;simp [SwV, Act.eval] at et35;have et50 := hF.new 28 50 (by simp [hd]) rfl;simp [SwV, Act.eval] at et50;have ew := IntWalk.i64_in (x - (tg * cr)) (by omega);exact ⟨by simpa [SwW, upd] using hW, .int .i64 (x - (tg * cr)), by go_simp, rfl⟩
      · refine sP_ fun sg ly a wr hl hd hW hF => ?_;simp [Region.binds] at hd;have et51 := hF.new 29 51 (by simp [hd]) rfl;simp [SwV, Act.eval] at et51;have hz2 : (if tg * cr < x then x - tg * cr else 0) = z := by rw [HZ.out]; split <;> omega
        exact ⟨by simpa [SwW, upd] using hW, .int .i64 z, by go_simp, rfl⟩
      · refine sP_ fun sg ly a wr hl hd hW hF => ?_;simp [Region.binds] at hd;have et25 := hF.new 3 25 (by simp [hd]) rfl;simp [SwV, Act.eval] at et25;have et27 := hF.new 5 27 (by simp [hd]) rfl;simp [SwV, Act.eval] at et27;exact ⟨by simpa [SwW, upd] using hW, .pointer (some ⟨c.gb, k, none⟩), by go_simp, rfl⟩
      · refine sS_ rfl fun sg ly a wr hl hd hW hF => ?_;simp [Region.binds] at hd;have et53 := hF.new 31 53 (by simp [hd]) rfl;simp [SwV, Act.eval] at et53;have et52 := hF.new 30 52 (by simp [hd]) rfl;simp [SwV, Act.eval] at et52;have hW' := hW;unfold SwW at hW';rw [if_neg (by simp [hl])] at hW';subst hW';refine ⟨(W2.setCell ⟨c.gb, k, none⟩ (.int .i64 z)).drew, (), .skip, by go_simp, .inl rfl, by unfold SwW; rw [if_pos (by simp [upd])], fun _ _ _ h => h⟩
    intro _ a w3 hWW hF;obtain ⟨f3, hf3, rfl⟩ := hF.lit;have hw3 : w3 = (W2.setCell ⟨c.gb, k, none⟩ (.int .i64 z)).drew := by
      have h5 := hWW;unfold SwW at h5
      rwa [if_pos (by simp)] at h5
    clear hf3 hF hWW;simp only [List.filterMap, List.foldl, List.setIfInBounds_toArray, List.set_cons_succ, List.set_cons_zero];have S3 := HS.out.1.setBr N z hk;rw [← hw3] at S3;have H3 := Lib.hid S3;clear hw3 S3;go_wp2_with fail
    refine HI.out _ _ _ _ _ _ _ _ _ _ _ _ _ _ _ _ _ _ _ _ _ _ _ _ _ _ _ _ _ _ _ _ _ _ _ _ _ _ _ _ _ _ ?_;have e : swp1 c.p ho s.brash ⟨ho, k, tg⟩ = setI s.brash k z := by unfold swp1; rw [if_pos rfl, HZ.out, HS.out.2.1, HS.out.2.2]
    rw [e];exact H3.out
  · have hf : (ho == h) = false := by simpa using hh
    have HH := Lib.hid hh;clear hh;go_wp2_with fail
    refine HI.out _ _ _ _ _ _ _ _ _ _ _ _ _ _ _ _ _ _ _ _ _ _ _ _ _ _ _ _ _ _ _ _ _ _ _ _ _ _ _ _ _ _ ?_;have e : swp1 c.p h s.brash ⟨ho, k, tg⟩ = s.brash := by unfold swp1; rw [if_neg HH.out]
    rw [e];first | exact HS.out.1 | (rw [← hW2]; exact HS.out.1)
end Go.Proofs.YtalcinepeofmcaaGreat
namespace Go.Proofs.YtalcinepeofmcaaGreat
open Go Go.RowKit Sp Pt
theorem brR_set {B : Int} {b : List Int} {k x : Int} (h : brR B b) (hk : 0 ≤ k) (hx : -B ≤ x ∧ x ≤ B) : brR B (setI b k x) := getI_setI_bd hk h hx
theorem swp1_bd {B : Int} {p : Prt} {h : Int} {b : List Int} {s : Swp} (hb : brR B b) (hs : 0 ≤ s.channel ∧ 0 ≤ s.tugs) (hc : 0 ≤ (ch p s.channel).clear) : brR B (swp1 p h b s) := by
  unfold swp1;split
  · refine brR_set hb hs.1 ?_;have := hb s.channel;have := Int.mul_nonneg hs.2 hc;omega
  · exact hb
theorem swpN_bd {B : Int} {p : Prt} {h : Int} {l : List Swp} (hs : ∀ s ∈ l, 0 ≤ s.channel ∧ s.channel < p.chs.length ∧ 0 ≤ s.tugs) (hc : ∀ x ∈ p.chs, 0 ≤ x.clear) : ∀ {b : List Int}, brR B b → brR B (swpN p h l b) := by
  induction l with
  | nil => intro b hb; exact hb
  | cons s l ih =>
    intro b hb;have h1 := hs s (by simp);exact ih (fun x hx => hs x (by simp [hx])) (swp1_bd hb ⟨h1.1, h1.2.2⟩ (hc _ (ch_mem h1.1 h1.2.1)))
theorem sweep_any {c : WC} {W w : World} {s : Stt} {h : Int} (E : WcE c W (brV c) (buV c)) (N : WcN c) (S : WkS c W w s) (v : Val c.p c.l) (hbr : brR 100000000000 s.brash) :
    Calls Tryz.prog 77 #[.pointer (some ⟨c.wb, 0, none⟩), .int .i64 h] w fun e w' => e = .returned (.tuple #[]) ∧ WkS c W w' ⟨swpN c.p h c.l.swps s.brash, s.busy⟩ := by
  obtain ⟨L, hL⟩ : ∃ L, L = c.l.swps.length := ⟨_, rfl⟩;have Er := E.at N S;obtain ⟨_, q1, _, _, _, _, _, _, q2, z1, _, z2⟩ := Er.cells;rw [← hL] at q2;have hL2 : L ≤ 200 := by have := v.nx; omega
  have H := Lib.hid (And.intro E (And.intro N (And.intro S (And.intro v (And.intro hbr hL)))));clear E N S Er hbr hL
  go_enter Tryz.func77, Tryz.ntmps77
  go_wp2_with fail
  go_loopw [14] (fun i wr => ∃ k : Nat, k ≤ L ∧ i = .int .i64 k ∧ WkS c W wr ⟨swpN c.p h (c.l.swps.take k) s.brash, s.busy⟩) (fun i _ => L - (intOf i).toNat)
  case atStart => exact ⟨0, Nat.zero_le _, rfl, H.out.2.2.1⟩
  case round =>
    obtain ⟨k, hk, rfl, hS⟩ := hrel;by_cases hlt : k < L
    · have hkl : k < c.l.swps.length := by have := H.out.2.2.2.2.2; omega
      have hm : c.l.swps.getD k default ∈ c.l.swps := by rw [List.getD_eq_getElem?_getD, List.getElem?_eq_getElem hkl]; exact List.getElem_mem hkl
      have hs := H.out.2.2.2.1.sw _ hm;have hb := swpN_bd (p := c.p) (h := h) (l := c.l.swps.take k) (fun x hx => by have := H.out.2.2.2.1.sw x (List.mem_of_mem_take hx); omega) (fun x hx => by have := H.out.2.2.2.1.chf x hx; omega) H.out.2.2.2.2.1;refine swR H.out.1 H.out.2.1 hS H.out.2.2.2.2.2.symm hlt (by omega) (by omega) (fun x hx => by have := H.out.2.2.2.1.chf x hx; omega) (by have := H.out.2.2.2.1.nc; omega) hb ?_;intro _ _ _ _ _ _ _ _ _ _ _ _ _ _ _ _ _ _ _ _ _ _ _ _ _ _ _ _ _ _ _ _ _ _ _ _ _ _ _ _ _ w' hr;refine ⟨?_, by simp [intOf]; omega⟩
      repeat apply Exists.intro
      refine ⟨?_, rfl⟩;refine ⟨k + 1, by omega, by go_num, ?_⟩;have e0 : (c.l.swps.take (k + 1)) = c.l.swps.take k ++ [c.l.swps.getD k default] := by rw [List.take_succ_eq_append_getElem hkl, List.getD_eq_getElem?_getD, List.getElem?_eq_getElem hkl]; rfl
      rw [e0, swpN, List.foldl_append];exact hr
    · obtain rfl : k = L := by omega
      have hf : WkS c W wr ⟨swpN c.p h c.l.swps s.brash, s.busy⟩ := by rw [H.out.2.2.2.2.2, List.take_length] at hS; exact hS
      have HF := Lib.hid hf;clear hf hS;go_wp2_with fail
      go_end0
      exact ⟨rfl, HF.out⟩
def FrV (W0 : World) (wb xb gb n c1 k : Nat) (x fr : Int) : Nat → Value → Prop
  | 0, v => v = .pointer (some ⟨wb, 0, none⟩)
  | 1, v => v = .pointer (some ⟨wb, 0, none⟩)
  | 2, v => v = .pointer (some ⟨wb, 2, none⟩)
  | 3, v => v = .slice (some ⟨gb, 0, none⟩) n c1
  | 4, v => v = .int .i64 k
  | 5, v => v = .pointer (some ⟨gb, k, none⟩)
  | 6, v => v = .int .i64 x
  | 7, v => v = .pointer (some ⟨xb, 1, none⟩)
  | 8, v => v = .int .i64 fr
  | 9, v => v = .int .i64 (x + fr)
  | 10, v => v = .pointer (some ⟨gb, k, none⟩)
  | _, _ => True
def FrW (W0 : World) (wb xb gb n c1 k : Nat) (x fr : Int) (l : Nat → Bool) (w : World) : Prop := if l 11 then w = (W0.setCell ⟨gb, k, none⟩ (.int .i64 (x + fr))).drew else w = W0.drew
theorem frR {c : WC} {W0 wr : World} {k : Nat} {s : Stt} (E : WcE c W0 (brV c) (buV c)) (N : WcN c) (S : WkS c W0 wr s) (hk : k < c.p.chs.length) (hfr : ∀ x ∈ c.p.chs, 0 ≤ x.frost ∧ x.frost ≤ 20) (hcn : c.p.chs.length ≤ 1000) (hbr : brR 100000000000 s.brash) {s1 s2 s3 s4 s5 s6 s7 s8 s9 s13 s14 s15 s16 s17 s18 s19 s20 s21 s22 s23 s24 s25 s26 s27 s28 : Value} {Q0 : Exit → Act → World → Prop} {Inv : Act → World → Prop}
    (hInv : ∀ (t2 t3 t13 t14 t15 t16 t17 t18 t19 t20 t21 t22 t23 t24 t25 t26 t27 t28 : Value)  (w' : World), WkS c W0 w' ⟨setI s.brash k (getI s.brash k + (ch c.p k).frost), s.busy⟩ → Inv ⟨#[.pointer (some ⟨c.wb, 0, none⟩), s1, t2, t3, s4, s5, s6, s7, s8, s9, .slice c.Ac c.p.chs.length c.cc, .int .i64 c.p.chs.length, .int .i64 ((k + 1 : Nat) : Int), t13, t14, t15, t16, t17, t18, t19, t20, t21, t22, t23, t24, t25, t26, t27, t28], []⟩ w') :
    Code.wp Tryz.prog (loopBody Tryz.f79 0) (Exit.then Inv Q0) ⟨#[.pointer (some ⟨c.wb, 0, none⟩), s1, s2, s3, s4, s5, s6, s7, s8, s9, .slice c.Ac c.p.chs.length c.cc, .int .i64 c.p.chs.length, .int .i64 k, s13, s14, s15, s16, s17, s18, s19, s20, s21, s22, s23, s24, s25, s26, s27, s28], []⟩ wr := by
  conv => arg 2; whnf
  have Er := E.at N S;obtain ⟨bc, oc, eAc, hbc, h0, h1, h2⟩ := chAt Er.PB hk;have zc := World.block_lt_of_cell? _ _ h0;have cbd := hfr _ (ch_mem (p := c.p) (i := (k : Int)) (by omega) (by omega));generalize ch c.p (k : Int) = y at *;obtain ⟨gr, fr, cr⟩ := y;simp only at h0 h1 h2 cbd;obtain ⟨W2, hW2⟩ : ∃ W2, W2 = wr.alloc (.cells #[.int .i64 gr, .int .i64 fr, .int .i64 cr] 99) := ⟨_, rfl⟩;obtain ⟨xb, hxb⟩ : ∃ xb, xb = wr.heap.size := ⟨_, rfl⟩;have hxh : W2.heap[xb]? = some (.cells #[.int .i64 gr, .int .i64 fr, .int .i64 cr] 99 (0, 0)) := by rw [hW2, hxb]; exact heap_alloc_new _ _
  have S2 : WkS c W0 W2 s := by rw [hW2]; exact S.alloc _
  have E2 := E.at N S2;obtain ⟨_, _, q2, _, _, _, _, _, _, z1, _, _⟩ := E2.cells;have q4 := S2.brAt hk;have q6 := (S2.br.one (A := none)).2.2 k;have z3 := (S2.br.one (A := none)).1;have x1 : W2.cell? ⟨xb, 1, none⟩ = some (.int .i64 fr) := (cOH hxh 1).trans rfl;have zx := hL_ hxh;obtain ⟨x, hx⟩ : ∃ x, x = getI s.brash k := ⟨_, rfl⟩;have hxr := hbr k;rw [← hx] at q4 hxr;rw [eAc] at hInv ⊢;have HI := Lib.hid hInv;have HS := Lib.hid (And.intro S2 hx);have k1 : (0 : Int) ≤ (k : Int) := by omega
  have k2 : (k : Int) < (c.p.chs.length : Int) := by omega
  clear hInv S S2 E Er E2 hxh hx hbr hfr eAc hbc;go_upto_region 3 with fail
  rw [← hW2, ← hxb];clear hW2 hxb h0 h1 h2 zc;refine wRS (σ := Unit) (by kernel_rfl) (by kernel_rfl) (fun _ jx vx _ => FrV W2 c.wb xb c.gb c.p.chs.length c.c1 k x fr jx vx) (fun _ ly wx => FrW W2 c.wb xb c.gb c.p.chs.length c.c1 k x fr ly wx) () ?_ ?_ ?_
  · exact (by unfold FrW; rw [if_neg (by simp)])
  · simp only [AllFrom, Nat.zero_add, Nat.reduceAdd];refine ⟨?_, ?_, ?_, ?_, ?_, ?_, ?_, ?_, ?_, ?_, ?_, ?_, trivial⟩
    · refine sP_ fun sg ly a wr hl hd hW hF => ?_;have et0 := hF.old 0 (by kernel_rfl);simp [Act.eval] at et0;exact ⟨by simpa [FrW, upd] using hW, .pointer (some ⟨c.wb, 0, none⟩), by go_simp, rfl⟩
    · refine sP_ fun sg ly a wr hl hd hW hF => ?_;simp [Region.binds] at hd;have et17 := hF.new 0 17 (by simp [hd]) rfl;simp [FrV, Act.eval] at et17;exact ⟨by simpa [FrW, upd] using hW, .pointer (some ⟨c.wb, 0, none⟩), by go_simp, rfl⟩
    · refine sP_ fun sg ly a wr hl hd hW hF => ?_;simp [Region.binds] at hd;have et18 := hF.new 1 18 (by simp [hd]) rfl;simp [FrV, Act.eval] at et18;exact ⟨by simpa [FrW, upd] using hW, .pointer (some ⟨c.wb, 2, none⟩), by go_simp, rfl⟩
    · refine sP_ fun sg ly a wr hl hd hW hF => ?_;simp [Region.binds] at hd;have et19 := hF.new 2 19 (by simp [hd]) rfl;simp [FrV, Act.eval] at et19;have nL_10 := hF.notYet 3 10 hl (by kernel_rfl);have nL := hF.notYet 10 11 nL_10 (by kernel_rfl);have hW' := hW;unfold FrW at hW';rw [if_neg (by simp [nL])] at hW';subst hW';exact ⟨by unfold FrW; rw [if_neg (by simp [upd, nL])], _, by go_simp, rfl⟩
    · refine sP_ fun sg ly a wr hl hd hW hF => ?_;have et2 := hF.old 2 (by kernel_rfl);simp [Act.eval] at et2;exact ⟨by simpa [FrW, upd] using hW, .int .i64 k, by go_simp, rfl⟩
    · refine sP_ fun sg ly a wr hl hd hW hF => ?_;simp [Region.binds] at hd;have et20 := hF.new 3 20 (by simp [hd]) rfl;simp [FrV, Act.eval] at et20;have et21 := hF.new 4 21 (by simp [hd]) rfl;simp [FrV, Act.eval] at et21;exact ⟨by simpa [FrW, upd] using hW, .pointer (some ⟨c.gb, k, none⟩), by go_simp, rfl⟩
    · refine sP_ fun sg ly a wr hl hd hW hF => ?_;simp [Region.binds] at hd;have et22 := hF.new 5 22 (by simp [hd]) rfl;simp [FrV, Act.eval] at et22;have nL_9 := hF.notYet 6 9 hl (by kernel_rfl);have nL := hF.notYet 9 11 nL_9 (by kernel_rfl);have hW' := hW;unfold FrW at hW';rw [if_neg (by simp [nL])] at hW';subst hW';exact ⟨by unfold FrW; rw [if_neg (by simp [upd, nL])], _, by go_simp, rfl⟩
    · refine sP_ fun sg ly a wr hl hd hW hF => ?_;have et3 := hF.old 3 (by kernel_rfl);simp [Act.eval] at et3;exact ⟨by simpa [FrW, upd] using hW, .pointer (some ⟨xb, 1, none⟩), by go_simp, rfl⟩
    · refine sP_ fun sg ly a wr hl hd hW hF => ?_;simp [Region.binds] at hd;have et24 := hF.new 7 24 (by simp [hd]) rfl;simp [FrV, Act.eval] at et24;have nL_9 := hF.notYet 8 9 hl (by kernel_rfl);have nL := hF.notYet 9 11 nL_9 (by kernel_rfl);have hW' := hW;unfold FrW at hW';rw [if_neg (by simp [nL])] at hW';subst hW';exact ⟨by unfold FrW; rw [if_neg (by simp [upd, nL])], _, by go_simp, rfl⟩
    · refine sP_ fun sg ly a wr hl hd hW hF => ?_;simp [Region.binds] at hd;have et23 := hF.new 6 23 (by simp [hd]) rfl;simp [FrV, Act.eval] at et23;have et25 := hF.new 8 25 (by simp [hd]) rfl;simp [FrV, Act.eval] at et25;have ew := IntWalk.i64_in (x + fr) (by omega);exact ⟨by simpa [FrW, upd] using hW, .int .i64 (x + fr), by go_simp, rfl⟩
    · refine sP_ fun sg ly a wr hl hd hW hF => ?_;simp [Region.binds] at hd;have et20 := hF.new 3 20 (by simp [hd]) rfl;simp [FrV, Act.eval] at et20;have et21 := hF.new 4 21 (by simp [hd]) rfl;simp [FrV, Act.eval] at et21;exact ⟨by simpa [FrW, upd] using hW, .pointer (some ⟨c.gb, k, none⟩), by go_simp, rfl⟩
    · refine sS_ rfl fun sg ly a wr hl hd hW hF => ?_;simp [Region.binds] at hd;have et27 := hF.new 10 27 (by simp [hd]) rfl;simp [FrV, Act.eval] at et27;have et26 := hF.new 9 26 (by simp [hd]) rfl;simp [FrV, Act.eval] at et26;have hW' := hW;unfold FrW at hW';rw [if_neg (by simp [hl])] at hW';subst hW';refine ⟨(W2.setCell ⟨c.gb, k, none⟩ (.int .i64 (x + fr))).drew, (), .skip, by go_simp, .inl rfl, by unfold FrW; rw [if_pos (by simp [upd])], fun _ _ _ h => h⟩
  intro _ a w3 hWW hF;obtain ⟨f3, hf3, rfl⟩ := hF.lit;have hw3 : w3 = (W2.setCell ⟨c.gb, k, none⟩ (.int .i64 (x + fr))).drew := by
    have h5 := hWW;unfold FrW at h5
    rwa [if_pos (by simp)] at h5
  clear hf3 hF hWW;simp only [List.filterMap, List.foldl, List.setIfInBounds_toArray, List.set_cons_succ, List.set_cons_zero];have S3 := HS.out.1.setBr N (x + fr) hk;rw [← hw3] at S3;have H3 := Lib.hid S3;clear hw3 S3;go_wp2_with fail
  refine HI.out _ _ _ _ _ _ _ _ _ _ _ _ _ _ _ _ _ _ _ ?_;rw [← HS.out.2];exact H3.out
theorem frostN_bd {B : Int} {p : Prt} (hf : ∀ x ∈ p.chs, 0 ≤ x.frost ∧ x.frost ≤ 20) {b : List Int} (hb : brR B b) : ∀ {k : Nat}, k ≤ p.chs.length → brR (B + 20 * k) (frostN p b k)
  | 0, _ => by simpa [frostN] using hb
  | k + 1, hk => by
    have ih := frostN_bd hf hb (k := k) (by omega);have h1 := hf _ (ch_mem (p := p) (i := (k : Int)) (by omega) (by omega));rw [frostN];refine brR_set (B := B + 20 * ((k + 1 : Nat) : Int)) (fun c => by have := ih c; omega) (by omega) ?_;have := ih k;omega
theorem frost_any {c : WC} {W w : World} {s : Stt} (E : WcE c W (brV c) (buV c)) (N : WcN c) (S : WkS c W w s) (v : Val c.p c.l) (hbr : brR 10000000000 s.brash) :
    Calls Tryz.prog 79 #[.pointer (some ⟨c.wb, 0, none⟩)] w fun e w' => e = .returned (.tuple #[]) ∧ WkS c W w' ⟨frostL c.p s.brash, s.busy⟩ := by
  have Er := E.at N S;obtain ⟨q0, _, _, _, q2, _, _, _, _, z1, z2, _⟩ := Er.cells;have hn := v.nc;have H := Lib.hid (And.intro E (And.intro N (And.intro S (And.intro v hbr))));clear E N S Er hbr
  go_enter Tryz.func79, Tryz.ntmps79
  go_wp2_with fail
  go_loopw [12] (fun i wr => ∃ k : Nat, k ≤ c.p.chs.length ∧ i = .int .i64 k ∧ WkS c W wr ⟨frostN c.p s.brash k, s.busy⟩) (fun i _ => c.p.chs.length - (intOf i).toNat)
  case atStart => exact ⟨0, Nat.zero_le _, rfl, H.out.2.2.1⟩
  case round =>
    obtain ⟨k, hk, rfl, hS⟩ := hrel;by_cases hlt : k < c.p.chs.length
    · have hf : ∀ x ∈ c.p.chs, 0 ≤ x.frost ∧ x.frost ≤ 20 := fun x hx => by have := H.out.2.2.2.1.chf x hx; omega
      have hb := frostN_bd hf H.out.2.2.2.2 hk;refine frR H.out.1 H.out.2.1 hS hlt hf (by omega) (fun j => by have := hb j; simp only; omega) ?_;intro _ _ _ _ _ _ _ _ _ _ _ _ _ _ _ _ _ _ w' hr;refine ⟨?_, by simp [intOf]; omega⟩
      repeat apply Exists.intro
      refine ⟨?_, rfl⟩;exact ⟨k + 1, by omega, by go_num, hr⟩
    · obtain rfl : k = c.p.chs.length := by omega
      have HF := Lib.hid hS;clear hS;go_wp2_with fail
      go_end0
      exact ⟨rfl, HF.out⟩
end Go.Proofs.YtalcinepeofmcaaGreat
