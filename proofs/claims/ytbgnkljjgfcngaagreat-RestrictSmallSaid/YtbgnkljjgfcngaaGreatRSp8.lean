/- slices.Equal at ints, orders, spans -/
import Derived.Test.YtbgnkljjgfcngaaGreatRSp7
import Derived.Laws.StructEq
import Derived.Test.YtbgnkljjgfcngaaGreatRSp0
set_option linter.unusedVariables false
set_option linter.unusedSimpArgs false
namespace Go.Proofs.YtbgnkljjgfcngaaGreat
open Go Go.RowKit Sp

set_option maxHeartbeats 1000000 in
theorem eqInts_any (A : Option Addr) (c : Nat) (l : List Int) (B : Option Addr) (d : Nat) (m : List Int) (w : World) (hr : Rd w 1 A l.length (ints l)) (hr2 : Rd w 1 B m.length (ints m)) (hm : l.length ≤ 9223372036854775807) (hm2 : m.length ≤ 9223372036854775807) :
    Calls Tryz.prog 73 #[.slice A l.length c, .slice B m.length d] w fun e w' => e = .returned (.bool (decide (l = m))) ∧ Below w.heap.size w w' := by
  by_cases hlen : l.length = m.length
  · have hle : ((l.length : Int) != (m.length : Int)) = false := by simp; omega
    have hmm : m.length = l.length := hlen.symm
    rw [hmm] at hr2 ⊢
    have HL := Lib.hid hmm
    clear hlen hmm
    go_enter Tryz.func73, Tryz.ntmps73
    go_wp2_with fail
    go_loopg [13] (l.length) (fun g i wr => ∃ k : Nat, g + k = l.length ∧ i = .int .i64 k ∧ l.take k = m.take k ∧ Keep [] w wr)
    case atStart => exact ⟨0, rfl, rfl, by simp, Keep.refl _ _⟩
    case round =>
      obtain ⟨k, hk, rfl, hb, hK⟩ := hrel
      have HB := Lib.hid (And.intro hb hK)
      by_cases hlt : k < l.length
      · obtain ⟨b, off, rfl, hbb, hc⟩ := hr.2 (by omega)
        obtain ⟨b2, off2, rfl, hbb2, hc2⟩ := hr2.2 (by omega)
        obtain ⟨x, hx⟩ : ∃ x, x = l.getD k 0 := ⟨_, rfl⟩
        obtain ⟨y, hy⟩ : ∃ y, y = m.getD k 0 := ⟨_, rfl⟩
        have c0 : wr.cell? ⟨b, off + k, none⟩ = some (.int .i64 x) := hK.cell (by rw [hx]; exact hc k _ (ints_get hlt)) (by simp)
        have c1 : wr.cell? ⟨b2, off2 + k, none⟩ = some (.int .i64 y) := hK.cell (by rw [hy]; exact hc2 k _ (ints_get (by have := HL.out; omega))) (by simp)
        have hkI : (0 : Int) ≤ (k : Int) ∧ (k : Int) < (l.length : Int) := by omega
        have hx' : x = l[k] := by rw [hx]; simp [hlt]
        have hy' : y = m[k]'(by have := HL.out; omega) := by rw [hy]; simp [show k < m.length from by have := HL.out; omega]
        have HX := Lib.hid (And.intro hx' hy')
        clear hx hy hx' hy' hb hK hc hc2 hr hr2
        by_cases hxy : x = y
        · subst hxy
          have hne : (x != x) = false := by simp
          go_upto_region 6 with fail
          go_quiet (fail)
          go_wp2_with fail
          go_roundg (gk - 1)
          case measure => omega
          case rel =>
            refine ⟨k + 1, by omega, by go_num, ?_, HB.out.2.drewN _⟩
            rw [List.take_succ_eq_append_getElem hlt, List.take_succ_eq_append_getElem (by have := HL.out; omega : k < m.length), HB.out.1, ← HX.out.1, ← HX.out.2]
        · have hne : (x != y) = true := by simp [hxy]
          go_upto_region 6 with fail
          go_quiet (fail)
          go_wp2_with fail
          go_ret
          refine ⟨?_, below_drewN (HB.out.2.below (Nat.le_refl _) (by simp)) _⟩
          have : decide (l = m) = false := decide_eq_false fun e => by
            apply hxy
            rw [HX.out.1, HX.out.2]
            simp [e]
          rw [this]; rfl
      · obtain rfl : k = l.length := by omega
        clear hK hb
        go_wp2_with fail
        go_ret
        refine ⟨?_, HB.out.2.below (Nat.le_refl _) (by simp)⟩
        have h1 := HB.out.1
        rw [List.take_length, show l.length = m.length from HL.out.symm, List.take_length] at h1
        rw [decide_eq_true h1]; rfl
  · have hle : ((l.length : Int) != (m.length : Int)) = true := by simp; omega
    have HL := Lib.hid hlen
    clear hlen
    go_enter Tryz.func73, Tryz.ntmps73
    go_wp2_with fail
    go_ret
    refine ⟨?_, Below.refl _ _⟩
    rw [decide_eq_false (fun e => HL.out (by rw [e]))]; rfl
theorem occs_get {l : List Ord} {k : Nat} (hk : k < l.length) : (occs l)[k*3]? = some (.int .i64 l[k].iss) ∧ (occs l)[k*3+1]? = some (.int .i64 l[k].frm) ∧ (occs l)[k*3+2]? = some (.int .i64 l[k].stp) := by
  induction l generalizing k with
  | nil => simp at hk
  | cons s l ih =>
    cases k with
    | zero => simp [occs, occ]
    | succ k =>
      have h4 : ∀ j, (occs (s :: l))[3 + j]? = (occs l)[j]? := fun j => by
        simp only [occs, List.flatMap_cons, occ]
        rw [List.getElem?_append_right (by simp)]
        simp
      have e : ∀ j, (k+1)*3 + j = 3 + (k*3 + j) := fun j => by omega
      have e0 : (k+1)*3 = 3 + k*3 := by omega
      have hk' : k < l.length := by simpa using hk
      rw [e, e, e0, h4, h4, h4]
      simpa using ih hk'

theorem ord_neq (x y : Ord) (w : World) : (binOp .neq 40 (.agg #[.int .i64 x.iss, .int .i64 x.frm, .int .i64 x.stp]) (.agg #[.int .i64 y.iss, .int .i64 y.frm, .int .i64 y.stp])).run Tryz.prog w = .ok (.bool (!decide (x = y))) w := by
  have u3 := Tryz.underlying3
  have a3 := Tryz.isAgg3
  have z3 := Tryz.sizeOf3
  have hS : Tryz.prog.underlying 40 = some (.struct (Tryz.prog.fieldsOf 40)) := by kernel_rfl
  have hp : Tryz.prog.stoodInHeld 40 = false := by kernel_rfl
  rw [run_neq_struct, show (10000 : Nat) = 9999 + 1 from rfl, run_equalIn_agg w 9999 40 _ _ hS hp]
  simp only [Program.fieldsOf, Tryz.underlying40]
  go_simp
  obtain ⟨a, b, c⟩ := x
  obtain ⟨a', b', c'⟩ := y
  by_cases h1 : a = a' <;> by_cases h2 : b = b' <;> by_cases h3 : c = c' <;> simp [h1, h2, h3]

theorem span_neq (x y : Int × Int) (w : World) : (binOp .neq 33 (.agg #[.int .i64 x.1, .int .i64 x.2]) (.agg #[.int .i64 y.1, .int .i64 y.2])).run Tryz.prog w = .ok (.bool (!decide (x = y))) w := by
  have u3 := Tryz.underlying3
  have a3 := Tryz.isAgg3
  have z3 := Tryz.sizeOf3
  have hS : Tryz.prog.underlying 33 = some (.struct (Tryz.prog.fieldsOf 33)) := by kernel_rfl
  have hp : Tryz.prog.stoodInHeld 33 = false := by kernel_rfl
  rw [run_neq_struct, show (10000 : Nat) = 9999 + 1 from rfl, run_equalIn_agg w 9999 33 _ _ hS hp]
  simp only [Program.fieldsOf, Tryz.underlying33]
  go_simp
  obtain ⟨a, b⟩ := x
  obtain ⟨a', b'⟩ := y
  by_cases h1 : a = a' <;> by_cases h2 : b = b' <;> simp [h1, h2]

set_option maxHeartbeats 1000000 in
theorem eqOrds_any (A : Option Addr) (c : Nat) (l : List Ord) (B : Option Addr) (d : Nat) (m : List Ord) (w : World) (hr : Rd w 3 A l.length (occs l)) (hr2 : Rd w 3 B m.length (occs m)) (hm : l.length ≤ 9223372036854775807) (hm2 : m.length ≤ 9223372036854775807) :
    Calls Tryz.prog 37 #[.slice A l.length c, .slice B m.length d] w fun e w' => e = .returned (.bool (decide (l = m))) ∧ Below w.heap.size w w' := by
  by_cases hlen : l.length = m.length
  · have hle : ((l.length : Int) != (m.length : Int)) = false := by simp; omega
    have hmm : m.length = l.length := hlen.symm
    rw [hmm] at hr2 ⊢
    have HL := Lib.hid hmm
    clear hlen hmm
    go_enter Tryz.func37, Tryz.ntmps37
    go_wp2_with fail
    go_loopg [13] (l.length) (fun g i wr => ∃ k : Nat, g + k = l.length ∧ i = .int .i64 k ∧ l.take k = m.take k ∧ Keep [] w wr)
    case atStart => exact ⟨0, rfl, rfl, by simp, Keep.refl _ _⟩
    case round =>
      obtain ⟨k, hk, rfl, hb, hK⟩ := hrel
      have HB := Lib.hid (And.intro hb hK)
      by_cases hlt : k < l.length
      · obtain ⟨b, off, rfl, hbb, hc⟩ := hr.2 (by omega)
        obtain ⟨b2, off2, rfl, hbb2, hc2⟩ := hr2.2 (by omega)
        have hlm : k < m.length := by have := HL.out; omega
        obtain ⟨x, hx'⟩ : ∃ x, x = l[k] := ⟨_, rfl⟩
        obtain ⟨y, hy'⟩ : ∃ y, y = m[k] := ⟨_, rfl⟩
        obtain ⟨s0, s1, s2⟩ := occs_get hlt
        obtain ⟨t0, t1, t2⟩ := occs_get hlm
        rw [← hx'] at s0 s1 s2
        rw [← hy'] at t0 t1 t2
        have bk : ∀ o u, w.cell? ⟨b, o, none⟩ = some u → wr.cell? ⟨b, o, none⟩ = some u := fun o u h => hK.cell h (by simp)
        have bk2 : ∀ o u, w.cell? ⟨b2, o, none⟩ = some u → wr.cell? ⟨b2, o, none⟩ = some u := fun o u h => hK.cell h (by simp)
        have c0 := bk (off + k*3) _ (hc _ _ s0)
        have c1 := bk (off + k*3 + 1) _ (hc _ _ s1)
        have c2 := bk (off + k*3 + 2) _ (hc _ _ s2)
        have d0 := bk2 (off2 + k*3) _ (hc2 _ _ t0)
        have d1 := bk2 (off2 + k*3 + 1) _ (hc2 _ _ t1)
        have d2 := bk2 (off2 + k*3 + 2) _ (hc2 _ _ t2)
        clear bk bk2 s0 t0 s1 t1 s2 t2
        have hkI : (0 : Int) ≤ (k : Int) ∧ (k : Int) < (l.length : Int) := by omega
        have HX := Lib.hid (And.intro hx' hy')
        clear hx' hy' hb hK hc hc2 hr hr2
        by_cases hxy : x = y
        · subst hxy
          have hne : ∀ w, (binOp .neq 40 (.agg #[.int .i64 x.iss, .int .i64 x.frm, .int .i64 x.stp]) (.agg #[.int .i64 x.iss, .int .i64 x.frm, .int .i64 x.stp])).run Tryz.prog w = .ok (.bool false) w := fun w => by rw [ord_neq]; simp
          go_upto_region 6 with fail
          go_quiet (fail)
          go_wp2_with fail
          go_roundg (gk - 1)
          case measure => omega
          case rel =>
            refine ⟨k + 1, by omega, by go_num, ?_, HB.out.2.drewN _⟩
            rw [List.take_succ_eq_append_getElem hlt, List.take_succ_eq_append_getElem (by have := HL.out; omega : k < m.length), HB.out.1, ← HX.out.1, ← HX.out.2]
        · have hne : ∀ w, (binOp .neq 40 (.agg #[.int .i64 x.iss, .int .i64 x.frm, .int .i64 x.stp]) (.agg #[.int .i64 y.iss, .int .i64 y.frm, .int .i64 y.stp])).run Tryz.prog w = .ok (.bool true) w := fun w => by rw [ord_neq]; simp [hxy]
          go_upto_region 6 with fail
          go_quiet (fail)
          go_wp2_with fail
          go_ret
          refine ⟨?_, below_drewN (HB.out.2.below (Nat.le_refl _) (by simp)) _⟩
          have : decide (l = m) = false := decide_eq_false fun e => by
            apply hxy
            rw [HX.out.1, HX.out.2]
            simp [e]
          rw [this]; rfl
      · obtain rfl : k = l.length := by omega
        clear hK hb
        go_wp2_with fail
        go_ret
        refine ⟨?_, HB.out.2.below (Nat.le_refl _) (by simp)⟩
        have h1 := HB.out.1
        rw [List.take_length, show l.length = m.length from HL.out.symm, List.take_length] at h1
        rw [decide_eq_true h1]; rfl
  · have hle : ((l.length : Int) != (m.length : Int)) = true := by simp; omega
    have HL := Lib.hid hlen
    clear hlen
    go_enter Tryz.func37, Tryz.ntmps37
    go_wp2_with fail
    go_ret
    refine ⟨?_, Below.refl _ _⟩
    rw [decide_eq_false (fun e => HL.out (by rw [e]))]; rfl

set_option maxHeartbeats 1000000 in
theorem eqSpans_any (A : Option Addr) (c : Nat) (l : List (Int × Int)) (B : Option Addr) (d : Nat) (m : List (Int × Int)) (w : World) (hr : Rd w 2 A l.length (spcs l)) (hr2 : Rd w 2 B m.length (spcs m)) (hm : l.length ≤ 9223372036854775807) (hm2 : m.length ≤ 9223372036854775807) :
    Calls Tryz.prog 74 #[.slice A l.length c, .slice B m.length d] w fun e w' => e = .returned (.bool (decide (l = m))) ∧ Below w.heap.size w w' := by
  by_cases hlen : l.length = m.length
  · have hle : ((l.length : Int) != (m.length : Int)) = false := by simp; omega
    have hmm : m.length = l.length := hlen.symm
    rw [hmm] at hr2 ⊢
    have HL := Lib.hid hmm
    clear hlen hmm
    go_enter Tryz.func74, Tryz.ntmps74
    go_wp2_with fail
    go_loopg [13] (l.length) (fun g i wr => ∃ k : Nat, g + k = l.length ∧ i = .int .i64 k ∧ l.take k = m.take k ∧ Keep [] w wr)
    case atStart => exact ⟨0, rfl, rfl, by simp, Keep.refl _ _⟩
    case round =>
      obtain ⟨k, hk, rfl, hb, hK⟩ := hrel
      have HB := Lib.hid (And.intro hb hK)
      by_cases hlt : k < l.length
      · obtain ⟨b, off, rfl, hbb, hc⟩ := hr.2 (by omega)
        obtain ⟨b2, off2, rfl, hbb2, hc2⟩ := hr2.2 (by omega)
        have hlm : k < m.length := by have := HL.out; omega
        obtain ⟨x, hx'⟩ : ∃ x, x = l[k] := ⟨_, rfl⟩
        obtain ⟨y, hy'⟩ : ∃ y, y = m[k] := ⟨_, rfl⟩
        obtain ⟨s0, s1⟩ := spcs_get hlt
        obtain ⟨t0, t1⟩ := spcs_get hlm
        rw [← hx'] at s0 s1
        rw [← hy'] at t0 t1
        have bk : ∀ o u, w.cell? ⟨b, o, none⟩ = some u → wr.cell? ⟨b, o, none⟩ = some u := fun o u h => hK.cell h (by simp)
        have bk2 : ∀ o u, w.cell? ⟨b2, o, none⟩ = some u → wr.cell? ⟨b2, o, none⟩ = some u := fun o u h => hK.cell h (by simp)
        have c0 := bk (off + k*2) _ (hc _ _ s0)
        have c1 := bk (off + k*2 + 1) _ (hc _ _ s1)
        have d0 := bk2 (off2 + k*2) _ (hc2 _ _ t0)
        have d1 := bk2 (off2 + k*2 + 1) _ (hc2 _ _ t1)
        clear bk bk2 s0 t0 s1 t1
        have hkI : (0 : Int) ≤ (k : Int) ∧ (k : Int) < (l.length : Int) := by omega
        have HX := Lib.hid (And.intro hx' hy')
        clear hx' hy' hb hK hc hc2 hr hr2
        by_cases hxy : x = y
        · subst hxy
          have hne : ∀ w, (binOp .neq 33 (.agg #[.int .i64 x.1, .int .i64 x.2]) (.agg #[.int .i64 x.1, .int .i64 x.2])).run Tryz.prog w = .ok (.bool false) w := fun w => by rw [span_neq]; simp
          go_upto_region 6 with fail
          go_quiet (fail)
          go_wp2_with fail
          go_roundg (gk - 1)
          case measure => omega
          case rel =>
            refine ⟨k + 1, by omega, by go_num, ?_, HB.out.2.drewN _⟩
            rw [List.take_succ_eq_append_getElem hlt, List.take_succ_eq_append_getElem (by have := HL.out; omega : k < m.length), HB.out.1, ← HX.out.1, ← HX.out.2]
        · have hne : ∀ w, (binOp .neq 33 (.agg #[.int .i64 x.1, .int .i64 x.2]) (.agg #[.int .i64 y.1, .int .i64 y.2])).run Tryz.prog w = .ok (.bool true) w := fun w => by rw [span_neq]; simp [hxy]
          go_upto_region 6 with fail
          go_quiet (fail)
          go_wp2_with fail
          go_ret
          refine ⟨?_, below_drewN (HB.out.2.below (Nat.le_refl _) (by simp)) _⟩
          have : decide (l = m) = false := decide_eq_false fun e => by
            apply hxy
            rw [HX.out.1, HX.out.2]
            simp [e]
          rw [this]; rfl
      · obtain rfl : k = l.length := by omega
        clear hK hb
        go_wp2_with fail
        go_ret
        refine ⟨?_, HB.out.2.below (Nat.le_refl _) (by simp)⟩
        have h1 := HB.out.1
        rw [List.take_length, show l.length = m.length from HL.out.symm, List.take_length] at h1
        rw [decide_eq_true h1]; rfl
  · have hle : ((l.length : Int) != (m.length : Int)) = true := by simp; omega
    have HL := Lib.hid hlen
    clear hlen
    go_enter Tryz.func74, Tryz.ntmps74
    go_wp2_with fail
    go_ret
    refine ⟨?_, Below.refl _ _⟩
    rw [decide_eq_false (fun e => HL.out (by rw [e]))]; rfl
end Go.Proofs.YtbgnkljjgfcngaaGreat
/- Example, winter, awake -/
namespace Go.Proofs.YtbgnkljjgfcngaaGreat
open Go Go.RowKit Sp

def exP : Pol := ⟨[⟨0, 0, 0, 0⟩, ⟨1, 2000, 100, 60⟩, ⟨3, 2000, 200, 150⟩], 2, 3, 1, 2⟩
def exD : List Int := [120, 130, 210, 220, 90, 50, 40, 30, 20]

theorem rd_lit (w : World) (size n : Nat) (cs : List Value) (t : TypeId) (h : cs.length = n * size) : Rd (w.alloc (.cells cs.toArray t)) size (some ⟨w.heap.size, 0, none⟩) n cs :=
  ⟨h, fun _ => ⟨_, 0, rfl, by simp, fun j u hu => by rw [Nat.zero_add, World.cell?_alloc_new]; simpa using hu⟩⟩

theorem Example_any (w : World) :
    Calls Tryz.prog 4 #[] w fun e w' => ∃ b, e = .returned (.agg #[.slice (some ⟨b, 0, none⟩) 3 3, .int .i64 2, .int .i64 3, .int .i64 1, .int .i64 2]) ∧ PolV w' (some ⟨b, 0, none⟩) 3 exP ∧ Below w.heap.size w w' := by
  go_enter Tryz.func4, Tryz.ntmps4
  go_wp2_with fail
  have hb : Below w.heap.size w ((w.alloc (.cells #[.slice (some ⟨w.heap.size + 1, 0, none⟩) 3 3, .int .i64 2, .int .i64 3, .int .i64 1, .int .i64 2] 25)).alloc (.cells (stcs exP.steps).toArray 36)) := ((Below.refl _ _).alloc (Nat.le_refl _) _).alloc (by simp) _
  have hr := rd_lit (w.alloc (.cells #[.slice (some ⟨w.heap.size + 1, 0, none⟩) 3 3, .int .i64 2, .int .i64 3, .int .i64 1, .int .i64 2] 25)) 4 3 (stcs exP.steps) 36 rfl
  rw [World.size_alloc] at hr
  have k : ∀ j u, (#[Value.slice (some ⟨w.heap.size + 1, 0, none⟩) 3 3, .int .i64 2, .int .i64 3, .int .i64 1, .int .i64 2] : Array Value)[j]? = some u → ((w.alloc (.cells #[.slice (some ⟨w.heap.size + 1, 0, none⟩) 3 3, .int .i64 2, .int .i64 3, .int .i64 1, .int .i64 2] 25)).alloc (.cells #[.int .i64 0, .int .i64 0, .int .i64 0, .int .i64 0, .int .i64 1, .int .i64 2000, .int .i64 100, .int .i64 60, .int .i64 3, .int .i64 2000, .int .i64 200, .int .i64 150] 36)).cell? ⟨w.heap.size, j, none⟩ = some u := fun j u hu => by
    rw [World.cell?_alloc_lt _ _ _ (by simp), World.cell?_alloc_new]; exact hu
  have k0 := k 0 _ rfl
  have k1 := k 1 _ rfl
  have k2 := k 2 _ rfl
  have k3 := k 3 _ rfl
  have k4 := k 4 _ rfl
  refine bodyPost_ret (v := .agg #[.slice (some ⟨w.heap.size + 1, 0, none⟩) 3 3, .int .i64 2, .int .i64 3, .int .i64 1, .int .i64 2]) (by simp [results, Tryz.results4, go_sem, k0, k1, k2, k3, k4]) rfl ?_
  exact ⟨_, rfl, ⟨by simp [exP], by simp [maxLen], hr⟩, hb⟩

theorem winter_any (w : World) :
    Calls Tryz.prog 5 #[] w fun e w' => ∃ b, e = .returned (.slice (some ⟨b, 0, none⟩) 9 9) ∧ Rd w' 1 (some ⟨b, 0, none⟩) 9 (ints exD) ∧ Below w.heap.size w w' := by
  go_enter Tryz.func5, Tryz.ntmps5
  go_wp2_with fail
  go_ret
  exact ⟨_, rfl, rd_lit w 1 9 (ints exD) 3 rfl, (Below.refl _ _).alloc (Nat.le_refl _) _⟩
end Go.Proofs.YtbgnkljjgfcngaaGreat
/- RestrictSmall: its numbers in memory (printed by wip/tools/small.py) -/
namespace Go.Proofs.YtbgnkljjgfcngaaGreat
open Go Go.RowKit Sp
set_option linter.unusedVariables false

theorem Example_new (w : World) :
    Calls Tryz.prog 4 #[] w fun e w' => ∃ b, e = .returned (.agg #[.slice (some ⟨b, 0, none⟩) 3 3, .int .i64 2, .int .i64 3, .int .i64 1, .int .i64 2]) ∧ w'.heap[b]? = some (.cells #[.int .i64 0, .int .i64 0, .int .i64 0, .int .i64 0, .int .i64 1, .int .i64 2000, .int .i64 100, .int .i64 60, .int .i64 3, .int .i64 2000, .int .i64 200, .int .i64 150] 36 (0, 0)) ∧ w.heap.size ≤ b ∧ Below w.heap.size w w' := by
  go_enter Tryz.func4, Tryz.ntmps4
  go_wp2_with fail
  have hb : Below w.heap.size w ((w.alloc (.cells #[.slice (some ⟨w.heap.size + 1, 0, none⟩) 3 3, .int .i64 2, .int .i64 3, .int .i64 1, .int .i64 2] 25)).alloc (.cells (stcs exP.steps).toArray 36)) := ((Below.refl _ _).alloc (Nat.le_refl _) _).alloc (by simp) _
  have k : ∀ j u, (#[Value.slice (some ⟨w.heap.size + 1, 0, none⟩) 3 3, .int .i64 2, .int .i64 3, .int .i64 1, .int .i64 2] : Array Value)[j]? = some u → ((w.alloc (.cells #[.slice (some ⟨w.heap.size + 1, 0, none⟩) 3 3, .int .i64 2, .int .i64 3, .int .i64 1, .int .i64 2] 25)).alloc (.cells #[.int .i64 0, .int .i64 0, .int .i64 0, .int .i64 0, .int .i64 1, .int .i64 2000, .int .i64 100, .int .i64 60, .int .i64 3, .int .i64 2000, .int .i64 200, .int .i64 150] 36)).cell? ⟨w.heap.size, j, none⟩ = some u := fun j u hu => by
    rw [World.cell?_alloc_lt _ _ _ (by simp), World.cell?_alloc_new]; exact hu
  have k0 := k 0 _ rfl
  have k1 := k 1 _ rfl
  have k2 := k 2 _ rfl
  have k3 := k 3 _ rfl
  have k4 := k 4 _ rfl
  refine bodyPost_ret (v := .agg #[.slice (some ⟨w.heap.size + 1, 0, none⟩) 3 3, .int .i64 2, .int .i64 3, .int .i64 1, .int .i64 2]) (by simp [results, Tryz.results4, go_sem, k0, k1, k2, k3, k4]) rfl ?_
  exact ⟨_, rfl, by have := heap_alloc_new (w.alloc (.cells #[.slice (some ⟨w.heap.size + 1, 0, none⟩) 3 3, .int .i64 2, .int .i64 3, .int .i64 1, .int .i64 2] 25)) (.cells (stcs exP.steps).toArray 36); rw [World.size_alloc] at this; exact this, by omega, hb⟩
theorem winter_new (w : World) :
    Calls Tryz.prog 5 #[] w fun e w' => ∃ b, e = .returned (.slice (some ⟨b, 0, none⟩) 9 9) ∧ w'.heap[b]? = some (.cells #[.int .i64 120, .int .i64 130, .int .i64 210, .int .i64 220, .int .i64 90, .int .i64 50, .int .i64 40, .int .i64 30, .int .i64 20] 3 (0, 0)) ∧ w.heap.size ≤ b ∧ Below w.heap.size w w' := by
  go_enter Tryz.func5, Tryz.ntmps5
  go_wp2_with fail
  go_ret
  exact ⟨_, rfl, heap_alloc_new w _, Nat.le_refl _, (Below.refl _ _).alloc (Nat.le_refl _) _⟩
theorem rd_heap {w : World} {b size n : Nat} {cs : List Value} {t : TypeId} (h : w.heap[b]? = some (.cells cs.toArray t (0, 0))) (hl : cs.length = n * size) : Rd w size (some ⟨b, 0, none⟩) n cs :=
  ⟨hl, fun _ => ⟨b, 0, rfl, heap_lt h, fun j u hu => by rw [Nat.zero_add, cell_of_heap h]; simpa using hu⟩⟩
def numL (sb db pb xb yb ab tb ib : Nat) (f : Nat → Int) : List (Nat × Obj) :=
  [(sb, .cells #[.int .i64 (f 4), .int .i64 0, .int .i64 0, .int .i64 (f 5), .int .i64 (f 6), .int .i64 (f 7), .int .i64 (f 8), .int .i64 (f 9), .int .i64 3, .int .i64 2000, .int .i64 (f 10), .int .i64 (f 11)] 36 (0, 0)),
   (db, .cells #[.int .i64 120, .int .i64 130, .int .i64 (f 12), .int .i64 220, .int .i64 (f 13), .int .i64 50, .int .i64 40, .int .i64 30, .int .i64 20] 3 (0, 0)),
   (pb, .cells #[.slice (some ⟨sb, 0, none⟩) 3 3, .int .i64 (f 0), .int .i64 (f 1), .int .i64 (f 2), .int .i64 (f 3)] 25 (0, 0)),
   (xb, .cells #[.int .i64 (f 14), .int .i64 (f 15), .bool false] 29 (0, 0)),
   (yb, .cells #[.int .i64 2, .int .i64 2000, .bool false, .int .i64 (f 16), .int .i64 (f 17)] 31 (0, 0)),
   (ab, .cells #[.int .i64 (f 18)] 3 (0, 0)),
   (tb, .cells #[.int .i64 (f 19)] 3 (0, 0)),
   (ib, .cells #[.int .i64 (f 20), .int .i64 (f 21)] 33 (0, 0))]
def numR (lb cb jb gb hb : Nat) (f : Nat → Int) : List (Nat × Obj) :=
  [(lb, .cells #[.int .i64 90, .int .i64 210, .int .i64 (f 4), .int .i64 150, .int .i64 0, .int .i64 (f 5)] 33 (0, 0)),
   (cb, .cells #[.int .i64 0, .int .i64 (f 6)] 3 (0, 0)),
   (jb, .cells #[.int .i64 (f 0), .int .i64 (f 1), .int .i64 (f 2), .int .i64 (f 3)] 45 (0, 0)),
   (gb, .cells #[.int .i64 0, .int .i64 100, .int .i64 0, .int .i64 400, .int .i64 0, .int .i64 100, .int .i64 0, .int .i64 3, .int .i64 0, .int .i64 100, .int .i64 0, .int .i64 (f 7), .int .i64 0, .int .i64 100, .int .i64 0, .int .i64 3] 54 (0, 0)),
   (hb, .cells #[.int .i64 2, .int .i64 1, .int .i64 7, .slice (some ⟨gb, 0, none⟩) 2 2] 49 (0, 0))]
def num0 (k : Nat) : Int := [2, 3, 1, 2, 0, 0, 1, 2000, 100, 60, 200, 150, 210, 90, 1, 2500, 3, 6, 5, 2, 2, 3].getD k 0
def numR0 (k : Nat) : Int := [80, 60, 3, 1, 100, 220, 1, 400].getD k 0
theorem num0_ge (k : Nat) : -9223372036854775808 ≤ num0 k := by
  by_cases h : k < 22
  · have : ∀ k : Fin 22, -9223372036854775808 ≤ num0 k := by decide
    exact this ⟨k, h⟩
  · simp [num0, List.getD, List.getElem?_eq_none (show [(2 : Int), (3 : Int), (1 : Int), (2 : Int), (0 : Int), (0 : Int), (1 : Int), (2000 : Int), (100 : Int), (60 : Int), (200 : Int), (150 : Int), (210 : Int), (90 : Int), (1 : Int), (2500 : Int), (3 : Int), (6 : Int), (5 : Int), (2 : Int), (2 : Int), (3 : Int)].length ≤ k from by simp; omega)]
theorem numR0_ge (k : Nat) : -9223372036854775808 ≤ numR0 k := by
  by_cases h : k < 8
  · have : ∀ k : Fin 8, -9223372036854775808 ≤ numR0 k := by decide
    exact this ⟨k, h⟩
  · simp [numR0, List.getD, List.getElem?_eq_none (show [(80 : Int), (60 : Int), (3 : Int), (1 : Int), (100 : Int), (220 : Int), (1 : Int), (400 : Int)].length ≤ k from by simp; omega)]
theorem num_store {D : Nat} {W0 w : World} {sb db pb xb yb ab tb ib : Nat} {f : Nat → Int} (h : Blks D W0 (numL sb db pb xb yb ab tb ib f) w) {n : Nat} (hn : n < 22) {v : Int} (hv : -9223372036854775808 ≤ v) (hf : ∀ k, -9223372036854775808 ≤ f k) :
    ∃ (b o : Nat) (f' : Nat → Int) (x : Int), [(pb, 1), (pb, 2), (pb, 3), (pb, 4), (sb, 0), (sb, 3), (sb, 4), (sb, 5), (sb, 6), (sb, 7), (sb, 10), (sb, 11), (db, 2), (db, 4), (xb, 0), (xb, 1), (yb, 3), (yb, 4), (ab, 0), (tb, 0), (ib, 0), (ib, 1)][n]? = some (b, o) ∧ w.cell? ⟨b, o, none⟩ = some (.int .i64 x) ∧ w.frozen? ⟨b, o, none⟩ = false ∧ b < w.heap.size ∧ Blks D W0 (numL sb db pb xb yb ab tb ib f') (w.setCell ⟨b, o, none⟩ (.int .i64 v)) ∧ ∀ k, -9223372036854775808 ≤ f' k := by
  have key : ∀ j k, -9223372036854775808 ≤ (if k = j then v else f k) := fun j k => by split; exact hv; exact hf k
  match n, hn with
  | 0, _ => exact ⟨pb, 1, fun k => if k = 0 then v else f k, _, rfl, (cell_of_heap (h.heap 2 rfl) 1).trans rfl, frozen_of_heap (h.heap 2 rfl) 1, h.lt 2 rfl, h.set 2 rfl 1 _, key 0⟩
  | 1, _ => exact ⟨pb, 2, fun k => if k = 1 then v else f k, _, rfl, (cell_of_heap (h.heap 2 rfl) 2).trans rfl, frozen_of_heap (h.heap 2 rfl) 2, h.lt 2 rfl, h.set 2 rfl 2 _, key 1⟩
  | 2, _ => exact ⟨pb, 3, fun k => if k = 2 then v else f k, _, rfl, (cell_of_heap (h.heap 2 rfl) 3).trans rfl, frozen_of_heap (h.heap 2 rfl) 3, h.lt 2 rfl, h.set 2 rfl 3 _, key 2⟩
  | 3, _ => exact ⟨pb, 4, fun k => if k = 3 then v else f k, _, rfl, (cell_of_heap (h.heap 2 rfl) 4).trans rfl, frozen_of_heap (h.heap 2 rfl) 4, h.lt 2 rfl, h.set 2 rfl 4 _, key 3⟩
  | 4, _ => exact ⟨sb, 0, fun k => if k = 4 then v else f k, _, rfl, (cell_of_heap (h.heap 0 rfl) 0).trans rfl, frozen_of_heap (h.heap 0 rfl) 0, h.lt 0 rfl, h.set 0 rfl 0 _, key 4⟩
  | 5, _ => exact ⟨sb, 3, fun k => if k = 5 then v else f k, _, rfl, (cell_of_heap (h.heap 0 rfl) 3).trans rfl, frozen_of_heap (h.heap 0 rfl) 3, h.lt 0 rfl, h.set 0 rfl 3 _, key 5⟩
  | 6, _ => exact ⟨sb, 4, fun k => if k = 6 then v else f k, _, rfl, (cell_of_heap (h.heap 0 rfl) 4).trans rfl, frozen_of_heap (h.heap 0 rfl) 4, h.lt 0 rfl, h.set 0 rfl 4 _, key 6⟩
  | 7, _ => exact ⟨sb, 5, fun k => if k = 7 then v else f k, _, rfl, (cell_of_heap (h.heap 0 rfl) 5).trans rfl, frozen_of_heap (h.heap 0 rfl) 5, h.lt 0 rfl, h.set 0 rfl 5 _, key 7⟩
  | 8, _ => exact ⟨sb, 6, fun k => if k = 8 then v else f k, _, rfl, (cell_of_heap (h.heap 0 rfl) 6).trans rfl, frozen_of_heap (h.heap 0 rfl) 6, h.lt 0 rfl, h.set 0 rfl 6 _, key 8⟩
  | 9, _ => exact ⟨sb, 7, fun k => if k = 9 then v else f k, _, rfl, (cell_of_heap (h.heap 0 rfl) 7).trans rfl, frozen_of_heap (h.heap 0 rfl) 7, h.lt 0 rfl, h.set 0 rfl 7 _, key 9⟩
  | 10, _ => exact ⟨sb, 10, fun k => if k = 10 then v else f k, _, rfl, (cell_of_heap (h.heap 0 rfl) 10).trans rfl, frozen_of_heap (h.heap 0 rfl) 10, h.lt 0 rfl, h.set 0 rfl 10 _, key 10⟩
  | 11, _ => exact ⟨sb, 11, fun k => if k = 11 then v else f k, _, rfl, (cell_of_heap (h.heap 0 rfl) 11).trans rfl, frozen_of_heap (h.heap 0 rfl) 11, h.lt 0 rfl, h.set 0 rfl 11 _, key 11⟩
  | 12, _ => exact ⟨db, 2, fun k => if k = 12 then v else f k, _, rfl, (cell_of_heap (h.heap 1 rfl) 2).trans rfl, frozen_of_heap (h.heap 1 rfl) 2, h.lt 1 rfl, h.set 1 rfl 2 _, key 12⟩
  | 13, _ => exact ⟨db, 4, fun k => if k = 13 then v else f k, _, rfl, (cell_of_heap (h.heap 1 rfl) 4).trans rfl, frozen_of_heap (h.heap 1 rfl) 4, h.lt 1 rfl, h.set 1 rfl 4 _, key 13⟩
  | 14, _ => exact ⟨xb, 0, fun k => if k = 14 then v else f k, _, rfl, (cell_of_heap (h.heap 3 rfl) 0).trans rfl, frozen_of_heap (h.heap 3 rfl) 0, h.lt 3 rfl, h.set 3 rfl 0 _, key 14⟩
  | 15, _ => exact ⟨xb, 1, fun k => if k = 15 then v else f k, _, rfl, (cell_of_heap (h.heap 3 rfl) 1).trans rfl, frozen_of_heap (h.heap 3 rfl) 1, h.lt 3 rfl, h.set 3 rfl 1 _, key 15⟩
  | 16, _ => exact ⟨yb, 3, fun k => if k = 16 then v else f k, _, rfl, (cell_of_heap (h.heap 4 rfl) 3).trans rfl, frozen_of_heap (h.heap 4 rfl) 3, h.lt 4 rfl, h.set 4 rfl 3 _, key 16⟩
  | 17, _ => exact ⟨yb, 4, fun k => if k = 17 then v else f k, _, rfl, (cell_of_heap (h.heap 4 rfl) 4).trans rfl, frozen_of_heap (h.heap 4 rfl) 4, h.lt 4 rfl, h.set 4 rfl 4 _, key 17⟩
  | 18, _ => exact ⟨ab, 0, fun k => if k = 18 then v else f k, _, rfl, (cell_of_heap (h.heap 5 rfl) 0).trans rfl, frozen_of_heap (h.heap 5 rfl) 0, h.lt 5 rfl, h.set 5 rfl 0 _, key 18⟩
  | 19, _ => exact ⟨tb, 0, fun k => if k = 19 then v else f k, _, rfl, (cell_of_heap (h.heap 6 rfl) 0).trans rfl, frozen_of_heap (h.heap 6 rfl) 0, h.lt 6 rfl, h.set 6 rfl 0 _, key 19⟩
  | 20, _ => exact ⟨ib, 0, fun k => if k = 20 then v else f k, _, rfl, (cell_of_heap (h.heap 7 rfl) 0).trans rfl, frozen_of_heap (h.heap 7 rfl) 0, h.lt 7 rfl, h.set 7 rfl 0 _, key 20⟩
  | 21, _ => exact ⟨ib, 1, fun k => if k = 21 then v else f k, _, rfl, (cell_of_heap (h.heap 7 rfl) 1).trans rfl, frozen_of_heap (h.heap 7 rfl) 1, h.lt 7 rfl, h.set 7 rfl 1 _, key 21⟩
  | n + 22, h => exact absurd h (by omega)
theorem numR_store {D : Nat} {W0 w : World} {lb cb jb gb hb : Nat} {f : Nat → Int} (h : Blks D W0 (numR lb cb jb gb hb f) w) {n : Nat} (hn : n < 8) {v : Int} (hv : -9223372036854775808 ≤ v) (hf : ∀ k, -9223372036854775808 ≤ f k) :
    ∃ (b o : Nat) (f' : Nat → Int) (x : Int), [(jb, 0), (jb, 1), (jb, 2), (jb, 3), (lb, 2), (lb, 5), (cb, 1), (gb, 11)][n]? = some (b, o) ∧ w.cell? ⟨b, o, none⟩ = some (.int .i64 x) ∧ w.frozen? ⟨b, o, none⟩ = false ∧ b < w.heap.size ∧ Blks D W0 (numR lb cb jb gb hb f') (w.setCell ⟨b, o, none⟩ (.int .i64 v)) ∧ ∀ k, -9223372036854775808 ≤ f' k := by
  have key : ∀ j k, -9223372036854775808 ≤ (if k = j then v else f k) := fun j k => by split; exact hv; exact hf k
  match n, hn with
  | 0, _ => exact ⟨jb, 0, fun k => if k = 0 then v else f k, _, rfl, (cell_of_heap (h.heap 2 rfl) 0).trans rfl, frozen_of_heap (h.heap 2 rfl) 0, h.lt 2 rfl, h.set 2 rfl 0 _, key 0⟩
  | 1, _ => exact ⟨jb, 1, fun k => if k = 1 then v else f k, _, rfl, (cell_of_heap (h.heap 2 rfl) 1).trans rfl, frozen_of_heap (h.heap 2 rfl) 1, h.lt 2 rfl, h.set 2 rfl 1 _, key 1⟩
  | 2, _ => exact ⟨jb, 2, fun k => if k = 2 then v else f k, _, rfl, (cell_of_heap (h.heap 2 rfl) 2).trans rfl, frozen_of_heap (h.heap 2 rfl) 2, h.lt 2 rfl, h.set 2 rfl 2 _, key 2⟩
  | 3, _ => exact ⟨jb, 3, fun k => if k = 3 then v else f k, _, rfl, (cell_of_heap (h.heap 2 rfl) 3).trans rfl, frozen_of_heap (h.heap 2 rfl) 3, h.lt 2 rfl, h.set 2 rfl 3 _, key 3⟩
  | 4, _ => exact ⟨lb, 2, fun k => if k = 4 then v else f k, _, rfl, (cell_of_heap (h.heap 0 rfl) 2).trans rfl, frozen_of_heap (h.heap 0 rfl) 2, h.lt 0 rfl, h.set 0 rfl 2 _, key 4⟩
  | 5, _ => exact ⟨lb, 5, fun k => if k = 5 then v else f k, _, rfl, (cell_of_heap (h.heap 0 rfl) 5).trans rfl, frozen_of_heap (h.heap 0 rfl) 5, h.lt 0 rfl, h.set 0 rfl 5 _, key 5⟩
  | 6, _ => exact ⟨cb, 1, fun k => if k = 6 then v else f k, _, rfl, (cell_of_heap (h.heap 1 rfl) 1).trans rfl, frozen_of_heap (h.heap 1 rfl) 1, h.lt 1 rfl, h.set 1 rfl 1 _, key 6⟩
  | 7, _ => exact ⟨gb, 11, fun k => if k = 7 then v else f k, _, rfl, (cell_of_heap (h.heap 3 rfl) 11).trans rfl, frozen_of_heap (h.heap 3 rfl) 11, h.lt 3 rfl, h.set 3 rfl 11 _, key 7⟩
  | n + 8, h => exact absurd h (by omega)
theorem num_ptr {sb db pb xb yb ab tb ib b o n : Nat} (h : [(pb, 1), (pb, 2), (pb, 3), (pb, 4), (sb, 0), (sb, 3), (sb, 4), (sb, 5), (sb, 6), (sb, 7), (sb, 10), (sb, 11), (db, 2), (db, 4), (xb, 0), (xb, 1), (yb, 3), (yb, 4), (ab, 0), (tb, 0), (ib, 0), (ib, 1)][n]? = some (b, o)) : (#[.pointer (some ⟨pb, 1, none⟩), .pointer (some ⟨pb, 2, none⟩), .pointer (some ⟨pb, 3, none⟩), .pointer (some ⟨pb, 4, none⟩), .pointer (some ⟨sb, 0, none⟩), .pointer (some ⟨sb, 3, none⟩), .pointer (some ⟨sb, 4, none⟩), .pointer (some ⟨sb, 5, none⟩), .pointer (some ⟨sb, 6, none⟩), .pointer (some ⟨sb, 7, none⟩), .pointer (some ⟨sb, 10, none⟩), .pointer (some ⟨sb, 11, none⟩), .pointer (some ⟨db, 2, none⟩), .pointer (some ⟨db, 4, none⟩), .pointer (some ⟨xb, 0, none⟩), .pointer (some ⟨xb, 1, none⟩), .pointer (some ⟨yb, 3, none⟩), .pointer (some ⟨yb, 4, none⟩), .pointer (some ⟨ab, 0, none⟩), .pointer (some ⟨tb, 0, none⟩), .pointer (some ⟨ib, 0, none⟩), .pointer (some ⟨ib, 1, none⟩)] : Array Value)[n]? = some (.pointer (some ⟨b, o, none⟩)) := by
  match n, h with
  | 0, h => injection h with h; injection h with h1 h2; subst h1 h2; rfl
  | 1, h => injection h with h; injection h with h1 h2; subst h1 h2; rfl
  | 2, h => injection h with h; injection h with h1 h2; subst h1 h2; rfl
  | 3, h => injection h with h; injection h with h1 h2; subst h1 h2; rfl
  | 4, h => injection h with h; injection h with h1 h2; subst h1 h2; rfl
  | 5, h => injection h with h; injection h with h1 h2; subst h1 h2; rfl
  | 6, h => injection h with h; injection h with h1 h2; subst h1 h2; rfl
  | 7, h => injection h with h; injection h with h1 h2; subst h1 h2; rfl
  | 8, h => injection h with h; injection h with h1 h2; subst h1 h2; rfl
  | 9, h => injection h with h; injection h with h1 h2; subst h1 h2; rfl
  | 10, h => injection h with h; injection h with h1 h2; subst h1 h2; rfl
  | 11, h => injection h with h; injection h with h1 h2; subst h1 h2; rfl
  | 12, h => injection h with h; injection h with h1 h2; subst h1 h2; rfl
  | 13, h => injection h with h; injection h with h1 h2; subst h1 h2; rfl
  | 14, h => injection h with h; injection h with h1 h2; subst h1 h2; rfl
  | 15, h => injection h with h; injection h with h1 h2; subst h1 h2; rfl
  | 16, h => injection h with h; injection h with h1 h2; subst h1 h2; rfl
  | 17, h => injection h with h; injection h with h1 h2; subst h1 h2; rfl
  | 18, h => injection h with h; injection h with h1 h2; subst h1 h2; rfl
  | 19, h => injection h with h; injection h with h1 h2; subst h1 h2; rfl
  | 20, h => injection h with h; injection h with h1 h2; subst h1 h2; rfl
  | 21, h => injection h with h; injection h with h1 h2; subst h1 h2; rfl
  | n + 22, h => cases h
theorem numR_ptr {lb cb jb gb hb b o n : Nat} (h : [(jb, 0), (jb, 1), (jb, 2), (jb, 3), (lb, 2), (lb, 5), (cb, 1), (gb, 11)][n]? = some (b, o)) : (#[.pointer (some ⟨jb, 0, none⟩), .pointer (some ⟨jb, 1, none⟩), .pointer (some ⟨jb, 2, none⟩), .pointer (some ⟨jb, 3, none⟩), .pointer (some ⟨lb, 2, none⟩), .pointer (some ⟨lb, 5, none⟩), .pointer (some ⟨cb, 1, none⟩), .pointer (some ⟨gb, 11, none⟩)] : Array Value)[n]? = some (.pointer (some ⟨b, o, none⟩)) := by
  match n, h with
  | 0, h => injection h with h; injection h with h1 h2; subst h1 h2; rfl
  | 1, h => injection h with h; injection h with h1 h2; subst h1 h2; rfl
  | 2, h => injection h with h; injection h with h1 h2; subst h1 h2; rfl
  | 3, h => injection h with h; injection h with h1 h2; subst h1 h2; rfl
  | 4, h => injection h with h; injection h with h1 h2; subst h1 h2; rfl
  | 5, h => injection h with h; injection h with h1 h2; subst h1 h2; rfl
  | 6, h => injection h with h; injection h with h1 h2; subst h1 h2; rfl
  | 7, h => injection h with h; injection h with h1 h2; subst h1 h2; rfl
  | n + 8, h => cases h
end Go.Proofs.YtbgnkljjgfcngaaGreat
