/- slices.Equal at ints and at places (printed by wip/tools/ptequal.py) -/
import Derived.Test.YthmldeningpjbaaPFp24
import Derived.Laws.StructEq
import Derived.Test.YthmldeningpjbaaPFp1
import Derived.Test.YthmldeningpjbaaPFp17
import Derived.Test.YthmldeningpjbaaPFp0
import Derived.Test.YthmldeningpjbaaPFp15
import Derived.Test.YthmldeningpjbaaPFp8
set_option linter.unusedVariables false
set_option linter.unusedSimpArgs false
namespace Go.Proofs.Ythmldeningpjbaa
open Go Go.RowKit Sp Pt
set_option linter.unusedVariables false
set_option linter.unusedSimpArgs false

set_option maxHeartbeats 1000000 in
theorem eqIntsP_any (A : Option Addr) (c : Nat) (l : List Int) (B : Option Addr) (d : Nat) (m : List Int) (w : World) (hr : Rd w 1 A l.length (ints l)) (hr2 : Rd w 1 B m.length (ints m)) (hm : l.length ≤ 9223372036854775807) (hm2 : m.length ≤ 9223372036854775807) :
    Calls Try.prog 28 #[.slice A l.length c, .slice B m.length d] w fun e w' => e = .returned (.bool (decide (l = m))) ∧ Below w.heap.size w w' := by
  by_cases hlen : l.length = m.length
  · have hle : ((l.length : Int) != (m.length : Int)) = false := by simp; omega
    have hmm : m.length = l.length := hlen.symm
    rw [hmm] at hr2 ⊢
    have HL := Lib.hid hmm
    clear hlen hmm
    go_enter Try.func28, Try.ntmps28
    go_wp2_with fail
    go_loopg [13] (l.length) (fun g i wr => ∃ k : Nat, g + k = l.length ∧ i = .int .i64 k ∧ l.take k = m.take k ∧ Keep [] w wr)
    case atStart => exact ⟨0, rfl, rfl, by simp, Keep.refl _ _⟩
    case round =>
      obtain ⟨k, hk, rfl, hb, hK⟩ := hrel
      have HB := Lib.hid (And.intro hb hK)
      by_cases hlt : k < l.length
      · obtain ⟨b, off, rfl, hbb, hc⟩ := hr.2 (by omega)
        obtain ⟨b2, off2, rfl, hbb2, hc2⟩ := hr2.2 (by omega)
        obtain ⟨x, hx⟩ : ∃ x, x = l.getD k 0 := ⟨_, rfl⟩
        obtain ⟨y, hy⟩ : ∃ y, y = m.getD k 0 := ⟨_, rfl⟩
        have c0 : wr.cell? ⟨b, off + k, none⟩ = some (.int .i64 x) := hK.cell (by rw [hx]; exact hc k _ (ints_get hlt)) (by simp)
        have c1 : wr.cell? ⟨b2, off2 + k, none⟩ = some (.int .i64 y) := hK.cell (by rw [hy]; exact hc2 k _ (ints_get (by have := HL.out; omega))) (by simp)
        have hkI : (0 : Int) ≤ (k : Int) ∧ (k : Int) < (l.length : Int) := by omega
        have hx' : x = l[k] := by rw [hx]; simp [hlt]
        have hy' : y = m[k]'(by have := HL.out; omega) := by rw [hy]; simp [show k < m.length from by have := HL.out; omega]
        have HX := Lib.hid (And.intro hx' hy')
        clear hx hy hx' hy' hb hK hc hc2 hr hr2
        by_cases hxy : x = y
        · subst hxy
          have hne : (x != x) = false := by simp
          go_upto_region 6 with fail
          go_quiet (fail)
          go_wp2_with fail
          go_roundg (gk - 1)
          case measure => omega
          case rel =>
            refine ⟨k + 1, by omega, by go_num, ?_, HB.out.2.drewN _⟩
            rw [List.take_succ_eq_append_getElem hlt, List.take_succ_eq_append_getElem (by have := HL.out; omega : k < m.length), HB.out.1, ← HX.out.1, ← HX.out.2]
        · have hne : (x != y) = true := by simp [hxy]
          go_upto_region 6 with fail
          go_quiet (fail)
          go_wp2_with fail
          go_ret
          refine ⟨?_, below_drewN (HB.out.2.below (Nat.le_refl _) (by simp)) _⟩
          have : decide (l = m) = false := decide_eq_false fun e => by
            apply hxy
            rw [HX.out.1, HX.out.2]
            simp [e]
          rw [this]; rfl
      · obtain rfl : k = l.length := by omega
        clear hK hb
        go_wp2_with fail
        go_ret
        refine ⟨?_, HB.out.2.below (Nat.le_refl _) (by simp)⟩
        have h1 := HB.out.1
        rw [List.take_length, show l.length = m.length from HL.out.symm, List.take_length] at h1
        rw [decide_eq_true h1]; rfl
  · have hle : ((l.length : Int) != (m.length : Int)) = true := by simp; omega
    have HL := Lib.hid hlen
    clear hlen
    go_enter Try.func28, Try.ntmps28
    go_wp2_with fail
    go_ret
    refine ⟨?_, Below.refl _ _⟩
    rw [decide_eq_false (fun e => HL.out (by rw [e]))]; rfl
theorem plc_neq (x y : Plc) (w : World) : (binOp .neq 109 (.agg #[.int .i64 x.berth, .int .i64 x.start]) (.agg #[.int .i64 y.berth, .int .i64 y.start])).run Try.prog w = .ok (.bool (!decide (x = y))) w := by
  have u3 := Try.underlying3
  have a3 := Try.isAgg3
  have z3 := Try.sizeOf3
  have hS : Try.prog.underlying 109 = some (.struct (Try.prog.fieldsOf 109)) := by kernel_rfl
  have hp : Try.prog.stoodInHeld 109 = false := by kernel_rfl
  rw [run_neq_struct, show (10000 : Nat) = 9999 + 1 from rfl, run_equalIn_agg w 9999 109 _ _ hS hp]
  simp only [Program.fieldsOf, Try.underlying109]
  go_simp
  obtain ⟨a, b⟩ := x
  obtain ⟨a', b'⟩ := y
  by_cases h1 : a = a' <;> by_cases h2 : b = b' <;> simp [h1, h2]

set_option maxHeartbeats 1000000 in
theorem eqPlcs_any (A : Option Addr) (c : Nat) (l : List Plc) (B : Option Addr) (d : Nat) (m : List Plc) (w : World) (hr : Rd w 2 A l.length (plcs l)) (hr2 : Rd w 2 B m.length (plcs m)) (hm : l.length ≤ 9223372036854775807) (hm2 : m.length ≤ 9223372036854775807) :
    Calls Try.prog 49 #[.slice A l.length c, .slice B m.length d] w fun e w' => e = .returned (.bool (decide (l = m))) ∧ Below w.heap.size w w' := by
  by_cases hlen : l.length = m.length
  · have hle : ((l.length : Int) != (m.length : Int)) = false := by simp; omega
    have hmm : m.length = l.length := hlen.symm
    rw [hmm] at hr2 ⊢
    have HL := Lib.hid hmm
    clear hlen hmm
    go_enter Try.func49, Try.ntmps49
    go_wp2_with fail
    go_loopg [13] (l.length) (fun g i wr => ∃ k : Nat, g + k = l.length ∧ i = .int .i64 k ∧ l.take k = m.take k ∧ Keep [] w wr)
    case atStart => exact ⟨0, rfl, rfl, by simp, Keep.refl _ _⟩
    case round =>
      obtain ⟨k, hk, rfl, hb, hK⟩ := hrel
      have HB := Lib.hid (And.intro hb hK)
      by_cases hlt : k < l.length
      · obtain ⟨b, off, rfl, hbb, hc⟩ := hr.2 (by omega)
        obtain ⟨b2, off2, rfl, hbb2, hc2⟩ := hr2.2 (by omega)
        have hlm : k < m.length := by have := HL.out; omega
        obtain ⟨x, hx'⟩ : ∃ x, x = l[k] := ⟨_, rfl⟩
        obtain ⟨y, hy'⟩ : ∃ y, y = m[k] := ⟨_, rfl⟩
        obtain ⟨s0, s1⟩ := plcs_get hlt
        obtain ⟨t0, t1⟩ := plcs_get hlm
        rw [← hx'] at s0 s1
        rw [← hy'] at t0 t1
        have bk : ∀ o u, w.cell? ⟨b, o, none⟩ = some u → wr.cell? ⟨b, o, none⟩ = some u := fun o u h => hK.cell h (by simp)
        have bk2 : ∀ o u, w.cell? ⟨b2, o, none⟩ = some u → wr.cell? ⟨b2, o, none⟩ = some u := fun o u h => hK.cell h (by simp)
        have c0 := bk (off + k*2) _ (hc _ _ s0)
        have c1 := bk (off + k*2 + 1) _ (hc _ _ s1)
        have d0 := bk2 (off2 + k*2) _ (hc2 _ _ t0)
        have d1 := bk2 (off2 + k*2 + 1) _ (hc2 _ _ t1)
        clear bk bk2 s0 t0 s1 t1
        have hkI : (0 : Int) ≤ (k : Int) ∧ (k : Int) < (l.length : Int) := by omega
        have HX := Lib.hid (And.intro hx' hy')
        clear hx' hy' hb hK hc hc2 hr hr2
        by_cases hxy : x = y
        · subst hxy
          have hne : ∀ w, (binOp .neq 109 (.agg #[.int .i64 x.berth, .int .i64 x.start]) (.agg #[.int .i64 x.berth, .int .i64 x.start])).run Try.prog w = .ok (.bool false) w := fun w => by rw [plc_neq]; simp
          go_upto_region 6 with fail
          go_quiet (fail)
          go_wp2_with fail
          go_roundg (gk - 1)
          case measure => omega
          case rel =>
            refine ⟨k + 1, by omega, by go_num, ?_, HB.out.2.drewN _⟩
            rw [List.take_succ_eq_append_getElem hlt, List.take_succ_eq_append_getElem (by have := HL.out; omega : k < m.length), HB.out.1, ← HX.out.1, ← HX.out.2]
        · have hne : ∀ w, (binOp .neq 109 (.agg #[.int .i64 x.berth, .int .i64 x.start]) (.agg #[.int .i64 y.berth, .int .i64 y.start])).run Try.prog w = .ok (.bool true) w := fun w => by rw [plc_neq]; simp [hxy]
          go_upto_region 6 with fail
          go_quiet (fail)
          go_wp2_with fail
          go_ret
          refine ⟨?_, below_drewN (HB.out.2.below (Nat.le_refl _) (by simp)) _⟩
          have : decide (l = m) = false := decide_eq_false fun e => by
            apply hxy
            rw [HX.out.1, HX.out.2]
            simp [e]
          rw [this]; rfl
      · obtain rfl : k = l.length := by omega
        clear hK hb
        go_wp2_with fail
        go_ret
        refine ⟨?_, HB.out.2.below (Nat.le_refl _) (by simp)⟩
        have h1 := HB.out.1
        rw [List.take_length, show l.length = m.length from HL.out.symm, List.take_length] at h1
        rw [decide_eq_true h1]; rfl
  · have hle : ((l.length : Int) != (m.length : Int)) = true := by simp; omega
    have HL := Lib.hid hlen
    clear hlen
    go_enter Try.func49, Try.ntmps49
    go_wp2_with fail
    go_ret
    refine ⟨?_, Below.refl _ _⟩
    rw [decide_eq_false (fun e => HL.out (by rw [e]))]; rfl
theorem eqIntsP_same (A B : Option Addr) (c d n : Nat) (l : List Int) (w : World) (hn : n = l.length) (hm : n ≤ 1000) (h1 : Rd w 1 A n (ints l)) (h2 : Rd w 1 B n (ints l)) :
    Calls Try.prog 28 #[.slice A n c, .slice B n d] w fun e w' => e = .returned (.bool true) ∧ Below w.heap.size w w' := by
  subst hn
  have := eqIntsP_any A c l B d l w h1 h2 (by omega) (by omega)
  rwa [decide_eq_true rfl] at this
theorem eqPlcs_same (A B : Option Addr) (c d n : Nat) (l : List Plc) (w : World) (hn : n = l.length) (hm : n ≤ 1000) (h1 : Rd w 2 A n (plcs l)) (h2 : Rd w 2 B n (plcs l)) :
    Calls Try.prog 49 #[.slice A n c, .slice B n d] w fun e w' => e = .returned (.bool true) ∧ Below w.heap.size w w' := by
  subst hn
  have := eqPlcs_any A c l B d l w h1 h2 (by omega) (by omega)
  rwa [decide_eq_true rfl] at this
end Go.Proofs.Ythmldeningpjbaa
/- lists of structs that are the same: true (printed by wip/tools/same.py) -/
namespace Go.Proofs.Ythmldeningpjbaa
open Go Go.RowKit Sp Pt
set_option linter.unusedVariables false

theorem sameRChn (x : Chn) (w : World) : (binOp .neq 171 (.agg #[.int .i64 x.grow, .int .i64 x.frost, .int .i64 x.clear]) (.agg #[.int .i64 x.grow, .int .i64 x.frost, .int .i64 x.clear])).run Try.prog w = .ok (.bool false) w := by
  have u3 := Try.underlying3
  have a3 := Try.isAgg3
  have z3 := Try.sizeOf3
  have hS : Try.prog.underlying 171 = some (.struct (Try.prog.fieldsOf 171)) := by kernel_rfl
  have hp : Try.prog.stoodInHeld 171 = false := by kernel_rfl
  rw [run_neq_struct, show (10000 : Nat) = 9999 + 1 from rfl, run_equalIn_agg w 9999 171 _ _ hS hp]
  simp only [Program.fieldsOf, Try.underlying171]
  go_simp

set_option maxHeartbeats 1000000 in
theorem eqRChn_same (A : Option Addr) (c : Nat) (l : List Chn) (B : Option Addr) (d : Nat) (w : World) (hr : Rd w 3 A l.length (chcs l)) (hr2 : Rd w 3 B l.length (chcs l)) (hm : l.length ≤ 9223372036854775807) :
    Calls Try.prog 95 #[.slice A l.length c, .slice B l.length d] w fun e w' => e = .returned (.bool true) ∧ Below w.heap.size w w' := by
  go_enter Try.func95, Try.ntmps95
  go_wp2_with fail
  go_loopg [13] (l.length) (fun g i wr => ∃ k : Nat, g + k = l.length ∧ i = .int .i64 k ∧ Keep [] w wr)
  case atStart => exact ⟨0, rfl, rfl, Keep.refl _ _⟩
  case round =>
    obtain ⟨k, hk, rfl, hK⟩ := hrel
    have HB := Lib.hid hK
    by_cases hlt : k < l.length
    · obtain ⟨b, off, rfl, hbb, hc⟩ := hr.2 (by omega)
      obtain ⟨b2, off2, rfl, hbb2, hc2⟩ := hr2.2 (by omega)
      obtain ⟨x, hx'⟩ : ∃ x, x = l[k] := ⟨_, rfl⟩
      obtain ⟨s0, s1, s2⟩ := chcs_get hlt
      rw [← hx'] at s0 s1 s2
      have bk : ∀ o u, w.cell? ⟨b, o, none⟩ = some u → wr.cell? ⟨b, o, none⟩ = some u := fun o u h => hK.cell h (by simp)
      have bk2 : ∀ o u, w.cell? ⟨b2, o, none⟩ = some u → wr.cell? ⟨b2, o, none⟩ = some u := fun o u h => hK.cell h (by simp)
      have c0 := bk (off + k*3) _ (hc _ _ s0)
      have d0 := bk2 (off2 + k*3) _ (hc2 _ _ s0)
      have c1 := bk (off + k*3 + 1) _ (hc _ _ s1)
      have d1 := bk2 (off2 + k*3 + 1) _ (hc2 _ _ s1)
      have c2 := bk (off + k*3 + 2) _ (hc _ _ s2)
      have d2 := bk2 (off2 + k*3 + 2) _ (hc2 _ _ s2)
      clear bk bk2 s0 s1 s2
      have hkI : (0 : Int) ≤ (k : Int) ∧ (k : Int) < (l.length : Int) := by omega
      clear hx' hK hc hc2 hr hr2
      have hne : ∀ w, (binOp .neq 171 (.agg #[.int .i64 x.grow, .int .i64 x.frost, .int .i64 x.clear]) (.agg #[.int .i64 x.grow, .int .i64 x.frost, .int .i64 x.clear])).run Try.prog w = .ok (.bool false) w := fun w => sameRChn x w
      go_upto_region 6 with fail
      go_quiet (fail)
      go_wp2_with fail
      go_roundg (gk - 1)
      case measure => omega
      case rel => exact ⟨k + 1, by omega, by go_num, HB.out.drewN _⟩
    · obtain rfl : k = l.length := by omega
      clear hK
      go_wp2_with fail
      go_ret
      exact ⟨rfl, HB.out.below (Nat.le_refl _) (by simp)⟩

theorem sameRCal (x : Cal) (w : World) : (binOp .neq 173 (.agg #[.int .i64 x.hour, .int .i64 x.berth, .bool x.out, .int .i64 x.draught, .int .i64 x.most, .int .i64 x.tugs]) (.agg #[.int .i64 x.hour, .int .i64 x.berth, .bool x.out, .int .i64 x.draught, .int .i64 x.most, .int .i64 x.tugs])).run Try.prog w = .ok (.bool false) w := by
  have u3 := Try.underlying3
  have a3 := Try.isAgg3
  have z3 := Try.sizeOf3
  have u4 := Try.underlying4
  have a4 := Try.isAgg4
  have z4 := Try.sizeOf4
  have hS : Try.prog.underlying 173 = some (.struct (Try.prog.fieldsOf 173)) := by kernel_rfl
  have hp : Try.prog.stoodInHeld 173 = false := by kernel_rfl
  rw [run_neq_struct, show (10000 : Nat) = 9999 + 1 from rfl, run_equalIn_agg w 9999 173 _ _ hS hp]
  simp only [Program.fieldsOf, Try.underlying173]
  go_simp

set_option maxHeartbeats 1000000 in
theorem eqRCal_same (A : Option Addr) (c : Nat) (l : List Cal) (B : Option Addr) (d : Nat) (w : World) (hr : Rd w 6 A l.length (cacs l)) (hr2 : Rd w 6 B l.length (cacs l)) (hm : l.length ≤ 9223372036854775807) :
    Calls Try.prog 98 #[.slice A l.length c, .slice B l.length d] w fun e w' => e = .returned (.bool true) ∧ Below w.heap.size w w' := by
  go_enter Try.func98, Try.ntmps98
  go_wp2_with fail
  go_loopg [13] (l.length) (fun g i wr => ∃ k : Nat, g + k = l.length ∧ i = .int .i64 k ∧ Keep [] w wr)
  case atStart => exact ⟨0, rfl, rfl, Keep.refl _ _⟩
  case round =>
    obtain ⟨k, hk, rfl, hK⟩ := hrel
    have HB := Lib.hid hK
    by_cases hlt : k < l.length
    · obtain ⟨b, off, rfl, hbb, hc⟩ := hr.2 (by omega)
      obtain ⟨b2, off2, rfl, hbb2, hc2⟩ := hr2.2 (by omega)
      obtain ⟨x, hx'⟩ : ∃ x, x = l[k] := ⟨_, rfl⟩
      obtain ⟨s0, s1, s2, s3, s4, s5⟩ := cacs_get hlt
      rw [← hx'] at s0 s1 s2 s3 s4 s5
      have bk : ∀ o u, w.cell? ⟨b, o, none⟩ = some u → wr.cell? ⟨b, o, none⟩ = some u := fun o u h => hK.cell h (by simp)
      have bk2 : ∀ o u, w.cell? ⟨b2, o, none⟩ = some u → wr.cell? ⟨b2, o, none⟩ = some u := fun o u h => hK.cell h (by simp)
      have c0 := bk (off + k*6) _ (hc _ _ s0)
      have d0 := bk2 (off2 + k*6) _ (hc2 _ _ s0)
      have c1 := bk (off + k*6 + 1) _ (hc _ _ s1)
      have d1 := bk2 (off2 + k*6 + 1) _ (hc2 _ _ s1)
      have c2 := bk (off + k*6 + 2) _ (hc _ _ s2)
      have d2 := bk2 (off2 + k*6 + 2) _ (hc2 _ _ s2)
      have c3 := bk (off + k*6 + 3) _ (hc _ _ s3)
      have d3 := bk2 (off2 + k*6 + 3) _ (hc2 _ _ s3)
      have c4 := bk (off + k*6 + 4) _ (hc _ _ s4)
      have d4 := bk2 (off2 + k*6 + 4) _ (hc2 _ _ s4)
      have c5 := bk (off + k*6 + 5) _ (hc _ _ s5)
      have d5 := bk2 (off2 + k*6 + 5) _ (hc2 _ _ s5)
      clear bk bk2 s0 s1 s2 s3 s4 s5
      have hkI : (0 : Int) ≤ (k : Int) ∧ (k : Int) < (l.length : Int) := by omega
      clear hx' hK hc hc2 hr hr2
      have hne : ∀ w, (binOp .neq 173 (.agg #[.int .i64 x.hour, .int .i64 x.berth, .bool x.out, .int .i64 x.draught, .int .i64 x.most, .int .i64 x.tugs]) (.agg #[.int .i64 x.hour, .int .i64 x.berth, .bool x.out, .int .i64 x.draught, .int .i64 x.most, .int .i64 x.tugs])).run Try.prog w = .ok (.bool false) w := fun w => sameRCal x w
      go_upto_region 6 with fail
      go_quiet (fail)
      go_wp2_with fail
      go_roundg (gk - 1)
      case measure => omega
      case rel => exact ⟨k + 1, by omega, by go_num, HB.out.drewN _⟩
    · obtain rfl : k = l.length := by omega
      clear hK
      go_wp2_with fail
      go_ret
      exact ⟨rfl, HB.out.below (Nat.le_refl _) (by simp)⟩

theorem sameRSwp (x : Swp) (w : World) : (binOp .neq 174 (.agg #[.int .i64 x.hour, .int .i64 x.channel, .int .i64 x.tugs]) (.agg #[.int .i64 x.hour, .int .i64 x.channel, .int .i64 x.tugs])).run Try.prog w = .ok (.bool false) w := by
  have u3 := Try.underlying3
  have a3 := Try.isAgg3
  have z3 := Try.sizeOf3
  have hS : Try.prog.underlying 174 = some (.struct (Try.prog.fieldsOf 174)) := by kernel_rfl
  have hp : Try.prog.stoodInHeld 174 = false := by kernel_rfl
  rw [run_neq_struct, show (10000 : Nat) = 9999 + 1 from rfl, run_equalIn_agg w 9999 174 _ _ hS hp]
  simp only [Program.fieldsOf, Try.underlying174]
  go_simp

set_option maxHeartbeats 1000000 in
theorem eqRSwp_same (A : Option Addr) (c : Nat) (l : List Swp) (B : Option Addr) (d : Nat) (w : World) (hr : Rd w 3 A l.length (swcs l)) (hr2 : Rd w 3 B l.length (swcs l)) (hm : l.length ≤ 9223372036854775807) :
    Calls Try.prog 99 #[.slice A l.length c, .slice B l.length d] w fun e w' => e = .returned (.bool true) ∧ Below w.heap.size w w' := by
  go_enter Try.func99, Try.ntmps99
  go_wp2_with fail
  go_loopg [13] (l.length) (fun g i wr => ∃ k : Nat, g + k = l.length ∧ i = .int .i64 k ∧ Keep [] w wr)
  case atStart => exact ⟨0, rfl, rfl, Keep.refl _ _⟩
  case round =>
    obtain ⟨k, hk, rfl, hK⟩ := hrel
    have HB := Lib.hid hK
    by_cases hlt : k < l.length
    · obtain ⟨b, off, rfl, hbb, hc⟩ := hr.2 (by omega)
      obtain ⟨b2, off2, rfl, hbb2, hc2⟩ := hr2.2 (by omega)
      obtain ⟨x, hx'⟩ : ∃ x, x = l[k] := ⟨_, rfl⟩
      obtain ⟨s0, s1, s2⟩ := swcs_get hlt
      rw [← hx'] at s0 s1 s2
      have bk : ∀ o u, w.cell? ⟨b, o, none⟩ = some u → wr.cell? ⟨b, o, none⟩ = some u := fun o u h => hK.cell h (by simp)
      have bk2 : ∀ o u, w.cell? ⟨b2, o, none⟩ = some u → wr.cell? ⟨b2, o, none⟩ = some u := fun o u h => hK.cell h (by simp)
      have c0 := bk (off + k*3) _ (hc _ _ s0)
      have d0 := bk2 (off2 + k*3) _ (hc2 _ _ s0)
      have c1 := bk (off + k*3 + 1) _ (hc _ _ s1)
      have d1 := bk2 (off2 + k*3 + 1) _ (hc2 _ _ s1)
      have c2 := bk (off + k*3 + 2) _ (hc _ _ s2)
      have d2 := bk2 (off2 + k*3 + 2) _ (hc2 _ _ s2)
      clear bk bk2 s0 s1 s2
      have hkI : (0 : Int) ≤ (k : Int) ∧ (k : Int) < (l.length : Int) := by omega
      clear hx' hK hc hc2 hr hr2
      have hne : ∀ w, (binOp .neq 174 (.agg #[.int .i64 x.hour, .int .i64 x.channel, .int .i64 x.tugs]) (.agg #[.int .i64 x.hour, .int .i64 x.channel, .int .i64 x.tugs])).run Try.prog w = .ok (.bool false) w := fun w => sameRSwp x w
      go_upto_region 6 with fail
      go_quiet (fail)
      go_wp2_with fail
      go_roundg (gk - 1)
      case measure => omega
      case rel => exact ⟨k + 1, by omega, by go_num, HB.out.drewN _⟩
    · obtain rfl : k = l.length := by omega
      clear hK
      go_wp2_with fail
      go_ret
      exact ⟨rfl, HB.out.below (Nat.le_refl _) (by simp)⟩
end Go.Proofs.Ythmldeningpjbaa
/- polynyalaw09: samePort, samePlan of what is the same -/
namespace Go.Proofs.Ythmldeningpjbaa
open Go Go.RowKit Sp Pt
set_option linter.unusedVariables false
set_option linter.unusedSimpArgs false

set_option maxRecDepth 100000 in
set_option maxHeartbeats 1000000 in
theorem sameBrt_any (d : Int) (path : List Int) (A B : Option Addr) (c1 c2 : Nat) (w : World) (h1 : Rd w 1 A path.length (ints path)) (h2 : Rd w 1 B path.length (ints path)) (hl : path.length ≤ 1000) :
    Calls Try.prog 97 #[.agg #[.int .i64 d, .slice A path.length c1], .agg #[.int .i64 d, .slice B path.length c2]] w fun e w' => e = .returned (.bool true) ∧ Below w.heap.size w w' := by
  have hd : (d == d) = true := by simp
  have hk : ∀ wx, Below w.heap.size w wx → Calls Try.prog 37 #[.slice A path.length c1, .slice B path.length c2] wx fun e w' => e = .returned (.bool true) ∧ Below w.heap.size w w' := by
    intro wx hb
    refine (sameInts_any A c1 path B c2 wx (h1.below hb) (h2.below hb) (by omega)).mono ?_
    rintro e w' ⟨rfl, h⟩
    exact ⟨rfl, hb.trans (h.mono hb.size)⟩
  obtain ⟨n, hn⟩ : ∃ n, n = path.length := ⟨_, rfl⟩
  rw [← hn] at hk
  rw [← hn]
  have H := Lib.hid (And.intro hk hn)
  clear hk hn h1 h2 hl
  go_enter Try.func97, Try.ntmps97
  go_wp2_with (go_at_call 37; refine (H.out.1 _ (((Below.refl _ _).alloc (Nat.le_refl _) _).alloc (by simp) _)).mono ?_; rintro e w' ⟨rfl, hb⟩; have HB := Lib.hid hb; clear hb)
  go_ret
  exact ⟨by simp, HB.out⟩

set_option maxRecDepth 100000 in
set_option maxHeartbeats 2000000 in
theorem sameBrts_any (A : Option Addr) (c : Nat) (L : List BrR) (B : Option Addr) (d : Nat) (M : List BrR) (w : World) (hr : Rd w 2 A L.length (brcs L)) (hr2 : Rd w 2 B L.length (brcs M)) (hb : L.map (·.b) = M.map (·.b)) (hp : ∀ y ∈ L, Rd w 1 y.A y.b.path.length (ints y.b.path) ∧ y.b.path.length ≤ 1000) (hp2 : ∀ y ∈ M, Rd w 1 y.A y.b.path.length (ints y.b.path)) (hm : L.length ≤ 1000) :
    Calls Try.prog 96 #[.slice A L.length c, .slice B L.length d, .func (.func 97) #[] #[]] w fun e w' => e = .returned (.bool true) ∧ Below w.heap.size w w' := by
  have hlen : M.length = L.length := by have := congrArg List.length hb; simpa using this.symm
  have H := Lib.hid (And.intro hr (And.intro hr2 (And.intro hb (And.intro hp hp2))))
  have hne : ((L.length : Int) != (L.length : Int)) = false := by simp
  clear hr hr2 hb hp hp2
  go_enter Try.func96, Try.ntmps96
  go_wp2_with fail
  go_loopg [17] (L.length) (fun g i wr => ∃ k : Nat, g + k = L.length ∧ i = .int .i64 k ∧ Below w.heap.size w wr)
  case atStart => exact ⟨0, rfl, rfl, Below.refl _ _⟩
  case round =>
    obtain ⟨k, hk, rfl, hb⟩ := hrel
    by_cases hlt : k < L.length
    · obtain ⟨b1, o1, rfl, z1, k1⟩ := H.out.1.2 (by omega)
      obtain ⟨b2, o2, rfl, z2, k2⟩ := H.out.2.1.2 (by omega)
      obtain ⟨g0, g1⟩ := brcs_get (l := L) (k := k) hlt
      obtain ⟨g2, g3⟩ := brcs_get (l := M) (k := k) (by omega)
      have hLk := H.out.2.2.2.1 _ (List.getElem_mem hlt)
      have hMk := H.out.2.2.2.2 _ (List.getElem_mem (show k < M.length by omega))
      have heq : L[k].b = (M[k]'(by omega)).b := by
        have h := congrArg (fun l => l[k]?) H.out.2.2.1
        simp [List.getElem?_eq_getElem hlt, List.getElem?_eq_getElem (show k < M.length by omega)] at h
        exact h
      obtain ⟨⟨⟨dp, path⟩, A1, c1⟩, hy⟩ : ∃ y, y = L[k] := ⟨_, rfl⟩
      obtain ⟨⟨⟨dp2, path2⟩, A2, c2⟩, hy2⟩ : ∃ y, y = M[k]'(by omega) := ⟨_, rfl⟩
      rw [← hy] at g0 g1 hLk heq
      rw [← hy2] at g2 g3 hMk heq
      simp only at g0 g1 g2 g3 hLk hMk heq
      obtain ⟨rfl, rfl⟩ : dp2 = dp ∧ path2 = path := by injection heq with e1 e2; exact ⟨e1.symm, e2.symm⟩
      have c0 := (hb.cell (p := ⟨b1, o1 + k * 2, none⟩) z1).trans (k1 _ _ g0)
      have c1' := (hb.cell (p := ⟨b1, o1 + k * 2 + 1, none⟩) z1).trans (k1 (k * 2 + 1) _ g1)
      have c2' := (hb.cell (p := ⟨b2, o2 + k * 2, none⟩) z2).trans (k2 _ _ g2)
      have c3 := (hb.cell (p := ⟨b2, o2 + k * 2 + 1, none⟩) z2).trans (k2 (k * 2 + 1) _ g3)
      have hcall : ∀ wx, Below w.heap.size w wx → Calls Try.prog 97 #[.agg #[.int .i64 dp2, .slice A1 path2.length c1], .agg #[.int .i64 dp2, .slice A2 path2.length c2]] wx fun e w' => e = .returned (.bool true) ∧ Below w.heap.size w w' := by
        intro wx hb'
        refine (sameBrt_any dp2 path2 A1 A2 c1 c2 wx (hLk.1.below hb') (hMk.below hb') hLk.2).mono ?_
        rintro e w' ⟨rfl, h⟩
        exact ⟨rfl, hb'.trans (h.mono hb'.size)⟩
      obtain ⟨n, hn⟩ : ∃ n, n = path2.length := ⟨_, rfl⟩
      rw [← hn] at hcall c1' c3
      have zb1 : b1 < wr.heap.size := by have := hb.size; omega
      have zb2 : b2 < wr.heap.size := by have := hb.size; omega
      have n2 : (k : Int) < (L.length : Int) := by omega
      have HC := Lib.hid (And.intro hcall hb)
      clear k1 k2 g0 g1 g2 g3 hLk hMk hy hy2 hcall hn hb heq
      go_wp2_with (go_at_call 97; refine (HC.out.1 _ ((HC.out.2.alloc HC.out.2.size _).alloc (by have := HC.out.2.size; simp; omega) _)).mono ?_; rintro e w' ⟨rfl, hb'⟩; have HB := Lib.hid hb'; clear hb')
      go_roundg (gk - 1)
      case measure => omega
      case rel => exact ⟨k + 1, by omega, by go_num, HB.out⟩
    · have HB := Lib.hid hb
      clear hb
      obtain rfl : k = L.length := by omega
      go_wp2_with fail
      go_ret
      exact ⟨rfl, HB.out⟩

set_option maxRecDepth 100000 in
set_option maxHeartbeats 2000000 in
theorem samePort_any (Ac : Option Addr) (cc : Nat) (Ab : Option Addr) (cb : Nat) (Ac2 : Option Addr) (cc2 : Nat) (Ab2 : Option Addr) (cb2 : Nat) (p : Prt) (w : World) (hp : PrtB w.heap.size w Ac cc Ab cb p) (hq : PrtB w.heap.size w Ac2 cc2 Ab2 cb2 p) (hl : p.chs.length ≤ 1000) (hs : p.bts.length ≤ 1000) (hpl : ∀ b ∈ p.bts, b.path.length ≤ 1000) :
    Calls Try.prog 40 #[.agg (prtV Ac cc Ab cb p), .agg (prtV Ac2 cc2 Ab2 cb2 p)] w fun e w' => e = .returned (.bool true) ∧ Below w.heap.size w w' := by
  obtain ⟨W, hW⟩ : ∃ W, W = (w.alloc (.cells (prtV Ac cc Ab cb p) 26)).alloc (.cells (prtV Ac2 cc2 Ab2 cb2 p) 79) := ⟨_, rfl⟩
  have b0 : Below w.heap.size w W := by rw [hW]; exact ((Below.refl _ _).alloc (Nat.le_refl _) _).alloc (by simp) _
  have kc : Calls Try.prog 34 #[.agg (prtV Ac cc Ab cb p)] W _ := portR_any Ac cc Ab cb p W ((hp.below b0).mono b0.size) hl hs hpl
  have gp : W.heap[w.heap.size]? = some (.cells (prtV Ac cc Ab cb p) 26 (0, 0)) := by rw [hW]; exact heap_alloc' (heap_alloc_new _ _) _
  have gq : W.heap[w.heap.size + 1]? = some (.cells (prtV Ac2 cc2 Ab2 cb2 p) 79 (0, 0)) := by
    rw [hW]
    have := heap_alloc_new (w.alloc (.cells (prtV Ac cc Ab cb p) 26)) (.cells (prtV Ac2 cc2 Ab2 cb2 p) 79)
    rwa [World.size_alloc] at this
  have HG := Lib.hid (And.intro gp gq)
  have HH := Lib.hid (And.intro kc (And.intro b0 (And.intro hq (And.intro hl (And.intro hs hpl)))))
  have ht : (p.tugs == p.tugs) = true := by simp
  have zgp := heap_lt gp
  have zgq := heap_lt gq
  have gp0 : W.cell? ⟨w.heap.size, 0, none⟩ = some (.slice Ac p.chs.length cc) := (cell_of_heap gp 0).trans rfl
  have gp1 : W.cell? ⟨w.heap.size, 1, none⟩ = some (.slice Ab p.bts.length cb) := (cell_of_heap gp 1).trans rfl
  have gp2 : W.cell? ⟨w.heap.size, 2, none⟩ = some (.int .i64 p.tugs) := (cell_of_heap gp 2).trans rfl
  clear kc b0 hp hq hl hs hpl gp gq
  go_enter Try.func40, Try.ntmps40
  go_upto_region 1 with fail
  rw [← hW]
  clear hW
  go_upto_region 2 with (go_at_call 34; refine HH.out.1.mono ?_; rintro e w1 hnew; obtain ⟨A1, n1, A2, n2, rfl, hp1, hb1⟩ := hnew.use; have H1 := Lib.hid (And.intro hp1 hb1); clear hp1 hb1)
  obtain ⟨X, hX⟩ : ∃ X, X = w1.alloc (.cells (prtV A1 n1 A2 n2 p) 79) := ⟨_, rfl⟩
  obtain ⟨xb, hxb⟩ : ∃ b, b = w1.heap.size := ⟨_, rfl⟩
  rw [← hX, ← hxb]
  obtain ⟨-, b0, hq, hl, hs, hpl⟩ := HH.out
  obtain ⟨hp1, hb1⟩ := H1.out
  obtain ⟨gp, gq⟩ := HG.out
  clear gp0 gp1 gp2
  have bX : Below w1.heap.size w1 X := by rw [hX]; exact (Below.refl _ _).alloc (Nat.le_refl _) _
  have x0 : X.cell? ⟨xb, 0, none⟩ = some (.slice A1 p.chs.length n1) := by rw [hX, hxb]; exact (cell_of_heap (heap_alloc_new w1 _) 0).trans rfl
  have x1 : X.cell? ⟨xb, 1, none⟩ = some (.slice A2 p.bts.length n2) := by rw [hX, hxb]; exact (cell_of_heap (heap_alloc_new w1 _) 1).trans rfl
  have zx : xb < X.heap.size := by rw [hX, hxb]; simp
  have BX : Below w.heap.size w X := (b0.trans (hb1.mono b0.size)).trans (bX.mono (by have := b0.size; have := hb1.size; omega))
  have BW : Below W.heap.size W X := hb1.trans (bX.mono hb1.size)
  have p2 : X.cell? ⟨w.heap.size, 2, none⟩ = some (.int .i64 p.tugs) := (BW.cell (p := ⟨w.heap.size, 2, none⟩) (heap_lt gp)).trans ((cell_of_heap gp 2).trans rfl)
  have q0 : X.cell? ⟨w.heap.size + 1, 0, none⟩ = some (.slice Ac2 p.chs.length cc2) := (BW.cell (p := ⟨w.heap.size + 1, 0, none⟩) (heap_lt gq)).trans ((cell_of_heap gq 0).trans rfl)
  have q1 : X.cell? ⟨w.heap.size + 1, 1, none⟩ = some (.slice Ab2 p.bts.length cb2) := (BW.cell (p := ⟨w.heap.size + 1, 1, none⟩) (heap_lt gq)).trans ((cell_of_heap gq 1).trans rfl)
  have q2 : X.cell? ⟨w.heap.size + 1, 2, none⟩ = some (.int .i64 p.tugs) := (BW.cell (p := ⟨w.heap.size + 1, 2, none⟩) (heap_lt gq)).trans ((cell_of_heap gq 2).trans rfl)
  have zp : w.heap.size + 1 < X.heap.size := by have := heap_lt gq; have := BW.size; omega
  have zp' : w.heap.size < X.heap.size := by omega
  obtain ⟨L, hL, hLr, hLp⟩ := hp1.bts.rows
  obtain ⟨M, hM, hMr, hMp⟩ := hq.bts.rows
  have hLl : L.length = p.bts.length := by rw [← hL]; simp
  have k1 : ∀ wx, Keep [] X wx → Calls Try.prog 95 #[.slice A1 p.chs.length n1, .slice Ac2 p.chs.length cc2] wx fun e w' => e = .returned (.bool true) ∧ Below wx.heap.size wx w' := fun wx hk =>
    eqRChn_same A1 n1 p.chs Ac2 cc2 wx (hk.rd ((hp1.chs.below bX).rd bX.size) (by simp)) (hk.rd ((hq.chs.below BX).rd BX.size) (by simp)) (by omega)
  have k2 : ∀ wx, Keep [] X wx → Calls Try.prog 96 #[.slice A2 p.bts.length n2, .slice Ab2 p.bts.length cb2, .func (.func 97) #[] #[]] wx fun e w' => e = .returned (.bool true) ∧ Below wx.heap.size wx w' := fun wx hk => by
    rw [← hLl]
    refine sameBrts_any A2 n2 L Ab2 cb2 M wx ?_ ?_ (by rw [hL, hM]) (fun y hy => ⟨hk.rd (((hLp y hy).below bX).1.rd bX.size) (by simp), hpl _ (by rw [← hL]; exact List.mem_map.2 ⟨_, hy, rfl⟩)⟩) (fun y hy => hk.rd (((hMp y hy).below BX).1.rd BX.size) (by simp)) (by omega)
    · rw [hLl]; exact hk.rd ((hLr.below bX).rd bX.size) (by simp)
    · rw [hLl]; exact hk.rd ((hMr.below BX).rd BX.size) (by simp)
  have HK := Lib.hid (And.intro k1 (And.intro k2 BX))
  clear hX hxb b0 hq hl hs hpl hp1 hb1 bX BX gp gq BW hL hLr hLp hM hMr hMp hLl k1 k2
  go_wp2_with (first | (go_at_call 95; refine (HK.out.1 _ (Keep.refl _ _)).mono ?_; rintro e w2 ⟨rfl, hb2⟩; obtain ⟨hc2, hf2⟩ := bcell hb2; have H2 := Lib.hid hb2; clear hb2) | (go_at_call 96; refine (HK.out.2.1 _ (Keep.of_below H2.out)).mono ?_; rintro e w3 ⟨rfl, hb3⟩; have H3 := Lib.hid hb3; clear hb3))
  go_ret
  exact ⟨by simp, (HK.out.2.2.trans (H2.out.mono HK.out.2.2.size)).trans (H3.out.mono (by have := HK.out.2.2.size; have := H2.out.size; omega))⟩
end Go.Proofs.Ythmldeningpjbaa
/- polynyalaw09: samePlan of what is the same -/
namespace Go.Proofs.Ythmldeningpjbaa
open Go Go.RowKit Sp Pt
set_option linter.unusedVariables false
set_option linter.unusedSimpArgs false

set_option maxRecDepth 100000 in
set_option maxHeartbeats 2000000 in
theorem samePlan_any (Al : Option Addr) (cl : Nat) (As : Option Addr) (cs : Nat) (Al2 : Option Addr) (cl2 : Nat) (As2 : Option Addr) (cs2 : Nat) (l : Pln) (w : World) (hp : PlnB w.heap.size w Al cl As cs l) (hq : PlnB w.heap.size w Al2 cl2 As2 cs2 l) (hl : l.calls.length ≤ 1000) (hs : l.swps.length ≤ 1000) :
    Calls Try.prog 41 #[.agg (plnV Al cl As cs l), .agg (plnV Al2 cl2 As2 cs2 l)] w fun e w' => e = .returned (.bool true) ∧ Below w.heap.size w w' := by
  obtain ⟨W, hW⟩ : ∃ W, W = (w.alloc (.cells (plnV Al cl As cs l) 31)).alloc (.cells (plnV Al2 cl2 As2 cs2 l) 85) := ⟨_, rfl⟩
  have b0 : Below w.heap.size w W := by rw [hW]; exact ((Below.refl _ _).alloc (Nat.le_refl _) _).alloc (by simp) _
  have kc : Calls Try.prog 35 #[.agg (plnV Al cl As cs l)] W _ := planR_any Al cl As cs l W ((hp.below b0).mono b0.size) hl hs
  have gp : W.heap[w.heap.size]? = some (.cells (plnV Al cl As cs l) 31 (0, 0)) := by rw [hW]; exact heap_alloc' (heap_alloc_new _ _) _
  have gq : W.heap[w.heap.size + 1]? = some (.cells (plnV Al2 cl2 As2 cs2 l) 85 (0, 0)) := by
    rw [hW]
    have := heap_alloc_new (w.alloc (.cells (plnV Al cl As cs l) 31)) (.cells (plnV Al2 cl2 As2 cs2 l) 85)
    rwa [World.size_alloc] at this
  have HG := Lib.hid (And.intro gp gq)
  have HH := Lib.hid (And.intro kc (And.intro b0 (And.intro hq (And.intro hl hs))))
  have ht : (l.hours == l.hours) = true := by simp
  have zgp := heap_lt gp
  have zgq := heap_lt gq
  have gp0 : W.cell? ⟨w.heap.size, 0, none⟩ = some (.int .i64 l.hours) := (cell_of_heap gp 0).trans rfl
  have gp1 : W.cell? ⟨w.heap.size, 1, none⟩ = some (.slice Al l.calls.length cl) := (cell_of_heap gp 1).trans rfl
  have gp2 : W.cell? ⟨w.heap.size, 2, none⟩ = some (.slice As l.swps.length cs) := (cell_of_heap gp 2).trans rfl
  clear kc b0 hp hq hl hs gp gq
  go_enter Try.func41, Try.ntmps41
  go_upto_region 1 with fail
  rw [← hW]
  clear hW
  go_upto_region 2 with (go_at_call 35; refine HH.out.1.mono ?_; rintro e w1 hnew; obtain ⟨A1, n1, A2, n2, rfl, hp1, hb1⟩ := hnew.use; have H1 := Lib.hid (And.intro hp1 hb1); clear hp1 hb1)
  obtain ⟨X, hX⟩ : ∃ X, X = w1.alloc (.cells (plnV A1 n1 A2 n2 l) 85) := ⟨_, rfl⟩
  obtain ⟨xb, hxb⟩ : ∃ b, b = w1.heap.size := ⟨_, rfl⟩
  rw [← hX, ← hxb]
  obtain ⟨-, b0, hq, hl, hs⟩ := HH.out
  obtain ⟨hp1, hb1⟩ := H1.out
  obtain ⟨gp, gq⟩ := HG.out
  clear gp0 gp1 gp2
  have bX : Below w1.heap.size w1 X := by rw [hX]; exact (Below.refl _ _).alloc (Nat.le_refl _) _
  have x0 : X.cell? ⟨xb, 0, none⟩ = some (.int .i64 l.hours) := by rw [hX, hxb]; exact (cell_of_heap (heap_alloc_new w1 _) 0).trans rfl
  have x1 : X.cell? ⟨xb, 1, none⟩ = some (.slice A1 l.calls.length n1) := by rw [hX, hxb]; exact (cell_of_heap (heap_alloc_new w1 _) 1).trans rfl
  have x2 : X.cell? ⟨xb, 2, none⟩ = some (.slice A2 l.swps.length n2) := by rw [hX, hxb]; exact (cell_of_heap (heap_alloc_new w1 _) 2).trans rfl
  have zx : xb < X.heap.size := by rw [hX, hxb]; simp
  have BX : Below w.heap.size w X := (b0.trans (hb1.mono b0.size)).trans (bX.mono (by have := b0.size; have := hb1.size; omega))
  have BW : Below W.heap.size W X := hb1.trans (bX.mono hb1.size)
  have q0 : X.cell? ⟨w.heap.size + 1, 0, none⟩ = some (.int .i64 l.hours) := (BW.cell (p := ⟨w.heap.size + 1, 0, none⟩) (heap_lt gq)).trans ((cell_of_heap gq 0).trans rfl)
  have q1 : X.cell? ⟨w.heap.size + 1, 1, none⟩ = some (.slice Al2 l.calls.length cl2) := (BW.cell (p := ⟨w.heap.size + 1, 1, none⟩) (heap_lt gq)).trans ((cell_of_heap gq 1).trans rfl)
  have q2 : X.cell? ⟨w.heap.size + 1, 2, none⟩ = some (.slice As2 l.swps.length cs2) := (BW.cell (p := ⟨w.heap.size + 1, 2, none⟩) (heap_lt gq)).trans ((cell_of_heap gq 2).trans rfl)
  have zp : w.heap.size + 1 < X.heap.size := by have := heap_lt gq; have := BW.size; omega
  have k1 : ∀ wx, Keep [] X wx → Calls Try.prog 98 #[.slice A1 l.calls.length n1, .slice Al2 l.calls.length cl2] wx fun e w' => e = .returned (.bool true) ∧ Below wx.heap.size wx w' := fun wx hk =>
    eqRCal_same A1 n1 l.calls Al2 cl2 wx (hk.rd ((hp1.calls.below bX).rd bX.size) (by simp)) (hk.rd ((hq.calls.below BX).rd BX.size) (by simp)) (by omega)
  have k2 : ∀ wx, Keep [] X wx → Calls Try.prog 99 #[.slice A2 l.swps.length n2, .slice As2 l.swps.length cs2] wx fun e w' => e = .returned (.bool true) ∧ Below wx.heap.size wx w' := fun wx hk =>
    eqRSwp_same A2 n2 l.swps As2 cs2 wx (hk.rd ((hp1.swps.below bX).rd bX.size) (by simp)) (hk.rd ((hq.swps.below BX).rd BX.size) (by simp)) (by omega)
  have HK := Lib.hid (And.intro k1 (And.intro k2 BX))
  clear hX hxb b0 hq hl hs hp1 hb1 bX BX gp gq BW k1 k2
  go_wp2_with (first | (go_at_call 98; refine (HK.out.1 _ (Keep.refl _ _)).mono ?_; rintro e w2 ⟨rfl, hb2⟩; obtain ⟨hc2, hf2⟩ := bcell hb2; have H2 := Lib.hid hb2; clear hb2) | (go_at_call 99; refine (HK.out.2.1 _ (Keep.of_below H2.out)).mono ?_; rintro e w3 ⟨rfl, hb3⟩; have H3 := Lib.hid hb3; clear hb3))
  go_ret
  exact ⟨by simp, (HK.out.2.2.trans (H2.out.mono HK.out.2.2.size)).trans (H3.out.mono (by have := HK.out.2.2.size; have := H2.out.size; omega))⟩
end Go.Proofs.Ythmldeningpjbaa
/- polynyakit.SameTruths, CopyInts, CopyTruths as things of their own -/
namespace Go.Proofs.Ythmldeningpjbaa
open Go Go.RowKit Sp
set_option linter.unusedVariables false

set_option maxRecDepth 100000 in
set_option maxHeartbeats 1000000 in
theorem sameTruths_any (A : Option Addr) (c : Nat) (l : List Bool) (B : Option Addr) (d : Nat) (w : World) (hr : Rd w 1 A l.length (bools l)) (hr2 : Rd w 1 B l.length (bools l)) (hm : l.length ≤ 9223372036854775807) :
    Calls Try.prog 100 #[.slice A l.length c, .slice B l.length d] w fun e w' => e = .returned (.bool true) ∧ Below w.heap.size w w' := by
  have HR := Lib.hid (And.intro hr hr2)
  clear hr hr2
  go_enter Try.func100, Try.ntmps100
  go_wp2_with fail
  go_loopw [5] (fun i wr => ∃ k : Nat, k ≤ l.length ∧ i = .int .i64 k ∧ Below w.heap.size w wr) (fun i _ => l.length - (intOf i).toNat)
  case atStart => exact ⟨0, Nat.zero_le _, rfl, Below.refl _ _⟩
  case round =>
    obtain ⟨k, hk, rfl, hb⟩ := hrel
    by_cases hlt : k < l.length
    · obtain ⟨b1, o1, rfl, z1, k1⟩ := HR.out.1.2 (by omega)
      obtain ⟨b2, o2, rfl, z2, k2⟩ := HR.out.2.2 (by omega)
      obtain ⟨x, hx⟩ : ∃ x, x = l.getD k false := ⟨_, rfl⟩
      have c1 := (hb.cell (p := ⟨b1, o1 + k, none⟩) z1).trans (k1 k _ (bools_get hlt))
      have c2 := (hb.cell (p := ⟨b2, o2 + k, none⟩) z2).trans (k2 k _ (bools_get hlt))
      rw [← hx] at c1 c2
      have hxx : (x != x) = false := by simp
      have n1 : (0 : Int) ≤ (k : Int) := by omega
      have n2 : (k : Int) < (l.length : Int) := by omega
      have HB := Lib.hid hb
      clear k1 k2 hx hb z1 z2
      go_upto_region 6 with fail
      go_quiet (fail)
      go_wp2_with fail
      go_roundw
      case measure => simp [intOf]; omega
      case rel => exact ⟨k + 1, by omega, by go_num, belowK_drewN HB.out _⟩
    · have HB := Lib.hid hb
      clear hb
      go_wp2_with fail
      go_ret
      exact ⟨rfl, HB.out⟩

theorem infoKS : (Try.prog.info? 3).map (fun i => (i.zero, i.size, i.bytes)) = some (some (.int .i64 0), 1, 8) := by kernel_rfl
set_option maxRecDepth 100000 in
set_option maxHeartbeats 1000000 in
theorem copyIntsS_any (A : Option Addr) (c : Nat) (l : List Int) (w : World) (hr : Rd w 1 A l.length (ints l)) (hl : l.length ≤ 100000000) :
    Calls Try.prog 87 #[.slice A l.length c] w (CloneS w 3 1 l.length (ints l)) := by
  obtain ⟨i0, hi, hz0, hz1, hz2⟩ := info_parts infoKS
  have HR := Lib.hid hr
  clear hr
  go_enter Try.func87, Try.ntmps87
  go_wp2_with (at_builtin
               refine wpList_append_M (size := 1) rfl (.tmp 4) (.tmp 5) 33 rfl i0 _ 8 Try.underlying33 hi hz0 hz1 hz2 rfl (A := none) (n := 0) (c := 0) (B := A) (m := l.length) (d := c) (xs := []) (fp := []) (ys := ints l) (by simp [Act.eval]) (by simp [Act.eval]) (OwnS.nil _ _ _) HR.out (by intro u hu; obtain ⟨x, _, rfl⟩ := List.mem_map.1 hu; rfl) (by omega) (by omega) ?_
               intro A' c' w' fp' h1 h2 h3
               have HQ := Lib.hid (And.intro h1 (And.intro h2 h3))
               clear h1 h2 h3)
  go_ret
  have h1 := HQ.out.1
  rw [Nat.zero_add, List.nil_append] at h1
  refine ⟨A', c', fp', by simp, h1, fun g hg => ?_, HQ.out.2.2.below (Nat.le_refl _) (by simp)⟩
  rcases HQ.out.2.1 g hg with h | h
  · simp at h
  · omega
theorem infoKT : (Try.prog.info? 4).map (fun i => (i.zero, i.size, i.bytes)) = some (some (.bool false), 1, 1) := by kernel_rfl
set_option maxRecDepth 100000 in
set_option maxHeartbeats 1000000 in
theorem copyTruthsS_any (A : Option Addr) (c : Nat) (l : List Bool) (w : World) (hr : Rd w 1 A l.length (bools l)) (hl : l.length ≤ 100000000) :
    Calls Try.prog 88 #[.slice A l.length c] w (CloneS w 4 1 l.length (bools l)) := by
  obtain ⟨i0, hi, hz0, hz1, hz2⟩ := info_parts infoKT
  have HR := Lib.hid hr
  clear hr
  go_enter Try.func88, Try.ntmps88
  go_wp2_with (at_builtin
               refine wpList_append_M (size := 1) rfl (.tmp 4) (.tmp 5) 40 rfl i0 _ 1 Try.underlying40 hi hz0 hz1 hz2 rfl (A := none) (n := 0) (c := 0) (B := A) (m := l.length) (d := c) (xs := []) (fp := []) (ys := bools l) (by simp [Act.eval]) (by simp [Act.eval]) (OwnS.nil _ _ _) HR.out (by intro u hu; obtain ⟨x, _, rfl⟩ := List.mem_map.1 hu; rfl) (by omega) (by omega) ?_
               intro A' c' w' fp' h1 h2 h3
               have HQ := Lib.hid (And.intro h1 (And.intro h2 h3))
               clear h1 h2 h3)
  go_ret
  have h1 := HQ.out.1
  rw [Nat.zero_add, List.nil_append] at h1
  refine ⟨A', c', fp', by simp, h1, fun g hg => ?_, HQ.out.2.2.below (Nat.le_refl _) (by simp)⟩
  rcases HQ.out.2.1 g hg with h | h
  · simp at h
  · omega
end Go.Proofs.Ythmldeningpjbaa
