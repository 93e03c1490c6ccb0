import Derived.Test.YthmldeningpjbaaPRp15
import Derived.Laws.StructEq
import Derived.Test.YthmldeningpjbaaPRp0
import Derived.Test.YthmldeningpjbaaPRp10
import Derived.Test.YthmldeningpjbaaPRp9
import Derived.Test.YthmldeningpjbaaPRp5
import Derived.Test.YthmldeningpjbaaPRp8
import Derived.Deep.DeepCutAuto
import Derived.Test.YthmldeningpjbaaPRp14
import Derived.Test.YthmldeningpjbaaPRp4
import Derived.Test.YthmldeningpjbaaPRp1
import Derived.IntWalk
set_option linter.unusedVariables false
set_option linter.unusedSimpArgs false
set_option maxRecDepth 100000
set_option maxHeartbeats 40000000
namespace Go.Proofs.Ythmldeningpjbaa
open Go Go.RowKit Sp Pt
theorem eqIntsP_any (A : Option Addr) (c : Nat) (l : List Int) (B : Option Addr) (d : Nat) (m : List Int) (w : World) (hr : Rd w 1 A l.length (ints l)) (hr2 : Rd w 1 B m.length (ints m)) (hm : l.length ≤ 9223372036854775807) (hm2 : m.length ≤ 9223372036854775807) :
    Calls Try.prog 28 #[.slice A l.length c, .slice B m.length d] w fun e w' => e = .returned (.bool (decide (l = m))) ∧ Below w.heap.size w w' := by
  by_cases hlen : l.length = m.length
  · have hle : ((l.length : Int) != (m.length : Int)) = false := by simp; omega
    have hmm : m.length = l.length := hlen.symm;rw [hmm] at hr2 ⊢;have HL := Lib.hid hmm;clear hlen hmm
    go_enter Try.func28, Try.ntmps28
    go_wp2_with fail
    go_loopg [13] (l.length) (fun g i wr => ∃ k : Nat, g + k = l.length ∧ i = .int .i64 k ∧ l.take k = m.take k ∧ Keep [] w wr)
    case atStart => exact ⟨0, rfl, rfl, by simp, Keep.refl _ _⟩
    case round =>
      obtain ⟨k, hk, rfl, hb, hK⟩ := hrel;have HB := Lib.hid (And.intro hb hK);by_cases hlt : k < l.length
      · obtain ⟨b, off, rfl, hbb, hc⟩ := hr.2 (by omega);obtain ⟨b2, off2, rfl, hbb2, hc2⟩ := hr2.2 (by omega);obtain ⟨x, hx⟩ : ∃ x, x = l.getD k 0 := ⟨_, rfl⟩;obtain ⟨y, hy⟩ : ∃ y, y = m.getD k 0 := ⟨_, rfl⟩;have c0 : wr.cell? ⟨b, off + k, none⟩ = some (.int .i64 x) := hK.cell (by rw [hx]; exact hc k _ (iG_ hlt)) (by simp);have c1 : wr.cell? ⟨b2, off2 + k, none⟩ = some (.int .i64 y) := hK.cell (by rw [hy]; exact hc2 k _ (iG_ (by have := HL.out; omega))) (by simp);have hkI : (0 : Int) ≤ (k : Int) ∧ (k : Int) < (l.length : Int) := by omega
        have hx' : x = l[k] := by rw [hx]; simp [hlt]
        have hy' : y = m[k]'(by have := HL.out; omega) := by rw [hy]; simp [show k < m.length from by have := HL.out; omega]
        have HX := Lib.hid (And.intro hx' hy');clear hx hy hx' hy' hb hK hc hc2 hr hr2;by_cases hxy : x = y
        · subst hxy;have hne : (x != x) = false := by simp
          go_upto_region 6 with fail
          go_quiet (fail);go_wp2_with fail
          go_roundg (gk - 1);case measure => omega
          case rel =>
            refine ⟨k + 1, by omega, by go_num, ?_, HB.out.2.drewN _⟩;rw [List.take_succ_eq_append_getElem hlt, List.take_succ_eq_append_getElem (by have := HL.out; omega : k < m.length), HB.out.1, ← HX.out.1, ← HX.out.2]
        · have hne : (x != y) = true := by simp [hxy]
          go_upto_region 6 with fail
          go_quiet (fail);go_wp2_with fail
          go_ret;refine ⟨?_, below_drewN (HB.out.2.below (Nat.le_refl _) (by simp)) _⟩;have : decide (l = m) = false := decide_eq_false fun e => by
            apply hxy;rw [HX.out.1, HX.out.2];simp [e]
          rw [this]; rfl
      · obtain rfl : k = l.length := by omega
        clear hK hb;go_wp2_with fail
        go_ret;refine ⟨?_, HB.out.2.below (Nat.le_refl _) (by simp)⟩;have h1 := HB.out.1;rw [List.take_length, show l.length = m.length from HL.out.symm, List.take_length] at h1;rw [decide_eq_true h1]; rfl
  · have hle : ((l.length : Int) != (m.length : Int)) = true := by simp; omega
    have HL := Lib.hid hlen;clear hlen
    go_enter Try.func28, Try.ntmps28
    go_wp2_with fail
    go_ret;refine ⟨?_, Below.refl _ _⟩;rw [decide_eq_false (fun e => HL.out (by rw [e]))]; rfl
theorem plc_neq (x y : Plc) (w : World) : (binOp .neq 109 (.agg #[.int .i64 x.berth, .int .i64 x.start]) (.agg #[.int .i64 y.berth, .int .i64 y.start])).run Try.prog w = .ok (.bool (!decide (x = y))) w := by
  have u3 := Try.underlying3;have a3 := Try.isAgg3;have z3 := Try.sizeOf3;have hS : Try.prog.underlying 109 = some (.struct (Try.prog.fieldsOf 109)) := by kernel_rfl
  have hp : Try.prog.stoodInHeld 109 = false := by kernel_rfl
  rw [run_neq_struct, show (10000 : Nat) = 9999 + 1 from rfl, run_equalIn_agg w 9999 109 _ _ hS hp];simp only [Program.fieldsOf, Try.underlying109];go_simp;obtain ⟨a, b⟩ := x;obtain ⟨a', b'⟩ := y;by_cases h1 : a = a' <;> by_cases h2 : b = b' <;> simp [h1, h2]
theorem eqPlcs_any (A : Option Addr) (c : Nat) (l : List Plc) (B : Option Addr) (d : Nat) (m : List Plc) (w : World) (hr : Rd w 2 A l.length (plcs l)) (hr2 : Rd w 2 B m.length (plcs m)) (hm : l.length ≤ 9223372036854775807) (hm2 : m.length ≤ 9223372036854775807) :
    Calls Try.prog 49 #[.slice A l.length c, .slice B m.length d] w fun e w' => e = .returned (.bool (decide (l = m))) ∧ Below w.heap.size w w' := by
  by_cases hlen : l.length = m.length
  · have hle : ((l.length : Int) != (m.length : Int)) = false := by simp; omega
    have hmm : m.length = l.length := hlen.symm;rw [hmm] at hr2 ⊢;have HL := Lib.hid hmm;clear hlen hmm
    go_enter Try.func49, Try.ntmps49
    go_wp2_with fail
    go_loopg [13] (l.length) (fun g i wr => ∃ k : Nat, g + k = l.length ∧ i = .int .i64 k ∧ l.take k = m.take k ∧ Keep [] w wr)
    case atStart => exact ⟨0, rfl, rfl, by simp, Keep.refl _ _⟩
    case round =>
      obtain ⟨k, hk, rfl, hb, hK⟩ := hrel;have HB := Lib.hid (And.intro hb hK);by_cases hlt : k < l.length
      · obtain ⟨b, off, rfl, hbb, hc⟩ := hr.2 (by omega);obtain ⟨b2, off2, rfl, hbb2, hc2⟩ := hr2.2 (by omega);have hlm : k < m.length := by have := HL.out; omega
        obtain ⟨x, hx'⟩ : ∃ x, x = l[k] := ⟨_, rfl⟩;obtain ⟨y, hy'⟩ : ∃ y, y = m[k] := ⟨_, rfl⟩;obtain ⟨s0, s1⟩ := plcs_get hlt;obtain ⟨t0, t1⟩ := plcs_get hlm;rw [← hx'] at s0 s1;rw [← hy'] at t0 t1;have bk : ∀ o u, w.cell? ⟨b, o, none⟩ = some u → wr.cell? ⟨b, o, none⟩ = some u := fun o u h => hK.cell h (by simp);have bk2 : ∀ o u, w.cell? ⟨b2, o, none⟩ = some u → wr.cell? ⟨b2, o, none⟩ = some u := fun o u h => hK.cell h (by simp);have c0 := bk (off + k*2) _ (hc _ _ s0);have c1 := bk (off + k*2 + 1) _ (hc _ _ s1);have d0 := bk2 (off2 + k*2) _ (hc2 _ _ t0);have d1 := bk2 (off2 + k*2 + 1) _ (hc2 _ _ t1);clear bk bk2 s0 t0 s1 t1;have hkI : (0 : Int) ≤ (k : Int) ∧ (k : Int) < (l.length : Int) := by omega
        have HX := Lib.hid (And.intro hx' hy');clear hx' hy' hb hK hc hc2 hr hr2;by_cases hxy : x = y
        · subst hxy;have hne : ∀ w, (binOp .neq 109 (.agg #[.int .i64 x.berth, .int .i64 x.start]) (.agg #[.int .i64 x.berth, .int .i64 x.start])).run Try.prog w = .ok (.bool false) w := fun w => by rw [plc_neq]; simp
          go_upto_region 6 with fail
          go_quiet (fail);go_wp2_with fail
          go_roundg (gk - 1);case measure => omega
          case rel =>
            refine ⟨k + 1, by omega, by go_num, ?_, HB.out.2.drewN _⟩;rw [List.take_succ_eq_append_getElem hlt, List.take_succ_eq_append_getElem (by have := HL.out; omega : k < m.length), HB.out.1, ← HX.out.1, ← HX.out.2]
        · have hne : ∀ w, (binOp .neq 109 (.agg #[.int .i64 x.berth, .int .i64 x.start]) (.agg #[.int .i64 y.berth, .int .i64 y.start])).run Try.prog w = .ok (.bool true) w := fun w => by rw [plc_neq]; simp [hxy]
          go_upto_region 6 with fail
          go_quiet (fail);go_wp2_with fail
          go_ret;refine ⟨?_, below_drewN (HB.out.2.below (Nat.le_refl _) (by simp)) _⟩;have : decide (l = m) = false := decide_eq_false fun e => by
            apply hxy;rw [HX.out.1, HX.out.2];simp [e]
          rw [this]; rfl
      · obtain rfl : k = l.length := by omega
        clear hK hb;go_wp2_with fail
        go_ret;refine ⟨?_, HB.out.2.below (Nat.le_refl _) (by simp)⟩;have h1 := HB.out.1;rw [List.take_length, show l.length = m.length from HL.out.symm, List.take_length] at h1;rw [decide_eq_true h1]; rfl
  · have hle : ((l.length : Int) != (m.length : Int)) = true := by simp; omega
    have HL := Lib.hid hlen;clear hlen
    go_enter Try.func49, Try.ntmps49
    go_wp2_with fail
    go_ret;refine ⟨?_, Below.refl _ _⟩;rw [decide_eq_false (fun e => HL.out (by rw [e]))]; rfl
theorem eqIntsP_same (A B : Option Addr) (c d n : Nat) (l : List Int) (w : World) (hn : n = l.length) (hm : n ≤ 1000) (h1 : Rd w 1 A n (ints l)) (h2 : Rd w 1 B n (ints l)) :
    Calls Try.prog 28 #[.slice A n c, .slice B n d] w fun e w' => e = .returned (.bool true) ∧ Below w.heap.size w w' := by
  subst hn;have := eqIntsP_any A c l B d l w h1 h2 (by omega) (by omega)
  rwa [decide_eq_true rfl] at this
theorem eqPlcs_same (A B : Option Addr) (c d n : Nat) (l : List Plc) (w : World) (hn : n = l.length) (hm : n ≤ 1000) (h1 : Rd w 2 A n (plcs l)) (h2 : Rd w 2 B n (plcs l)) :
    Calls Try.prog 49 #[.slice A n c, .slice B n d] w fun e w' => e = .returned (.bool true) ∧ Below w.heap.size w w' := by
  subst hn;have := eqPlcs_any A c l B d l w h1 h2 (by omega) (by omega)
  rwa [decide_eq_true rfl] at this
theorem sameRChn (x : Chn) (w : World) : (binOp .neq 171 (.agg #[.int .i64 x.grow, .int .i64 x.frost, .int .i64 x.clear]) (.agg #[.int .i64 x.grow, .int .i64 x.frost, .int .i64 x.clear])).run Try.prog w = .ok (.bool false) w := by
  have u3 := Try.underlying3;have a3 := Try.isAgg3;have z3 := Try.sizeOf3;have hS : Try.prog.underlying 171 = some (.struct (Try.prog.fieldsOf 171)) := by kernel_rfl
  have hp : Try.prog.stoodInHeld 171 = false := by kernel_rfl
  rw [run_neq_struct, show (10000 : Nat) = 9999 + 1 from rfl, run_equalIn_agg w 9999 171 _ _ hS hp];simp only [Program.fieldsOf, Try.underlying171];go_simp
theorem eqRChn_same (A : Option Addr) (c : Nat) (l : List Chn) (B : Option Addr) (d : Nat) (w : World) (hr : Rd w 3 A l.length (chcs l)) (hr2 : Rd w 3 B l.length (chcs l)) (hm : l.length ≤ 9223372036854775807) :
    Calls Try.prog 95 #[.slice A l.length c, .slice B l.length d] w fun e w' => e = .returned (.bool true) ∧ Below w.heap.size w w' := by
  go_enter Try.func95, Try.ntmps95
  go_wp2_with fail
  go_loopg [13] (l.length) (fun g i wr => ∃ k : Nat, g + k = l.length ∧ i = .int .i64 k ∧ Keep [] w wr)
  case atStart => exact ⟨0, rfl, rfl, Keep.refl _ _⟩
  case round =>
    obtain ⟨k, hk, rfl, hK⟩ := hrel;have HB := Lib.hid hK;by_cases hlt : k < l.length
    · obtain ⟨b, off, rfl, hbb, hc⟩ := hr.2 (by omega);obtain ⟨b2, off2, rfl, hbb2, hc2⟩ := hr2.2 (by omega);obtain ⟨x, hx'⟩ : ∃ x, x = l[k] := ⟨_, rfl⟩;obtain ⟨s0, s1, s2⟩ := chcs_get hlt;rw [← hx'] at s0 s1 s2;have bk : ∀ o u, w.cell? ⟨b, o, none⟩ = some u → wr.cell? ⟨b, o, none⟩ = some u := fun o u h => hK.cell h (by simp);have bk2 : ∀ o u, w.cell? ⟨b2, o, none⟩ = some u → wr.cell? ⟨b2, o, none⟩ = some u := fun o u h => hK.cell h (by simp);have c0 := bk (off + k*3) _ (hc _ _ s0);have d0 := bk2 (off2 + k*3) _ (hc2 _ _ s0);have c1 := bk (off + k*3 + 1) _ (hc _ _ s1);have d1 := bk2 (off2 + k*3 + 1) _ (hc2 _ _ s1);have c2 := bk (off + k*3 + 2) _ (hc _ _ s2);have d2 := bk2 (off2 + k*3 + 2) _ (hc2 _ _ s2);clear bk bk2 s0 s1 s2;have hkI : (0 : Int) ≤ (k : Int) ∧ (k : Int) < (l.length : Int) := by omega
      clear hx' hK hc hc2 hr hr2;have hne : ∀ w, (binOp .neq 171 (.agg #[.int .i64 x.grow, .int .i64 x.frost, .int .i64 x.clear]) (.agg #[.int .i64 x.grow, .int .i64 x.frost, .int .i64 x.clear])).run Try.prog w = .ok (.bool false) w := fun w => sameRChn x w;go_upto_region 6 with fail
      go_quiet (fail);go_wp2_with fail
      go_roundg (gk - 1);case measure => omega
      case rel => exact ⟨k + 1, by omega, by go_num, HB.out.drewN _⟩
    · obtain rfl : k = l.length := by omega
      clear hK;go_wp2_with fail
      go_ret;exact ⟨rfl, HB.out.below (Nat.le_refl _) (by simp)⟩
theorem sameRCal (x : Cal) (w : World) : (binOp .neq 173 (.agg #[.int .i64 x.hour, .int .i64 x.berth, .bool x.out, .int .i64 x.draught, .int .i64 x.most, .int .i64 x.tugs]) (.agg #[.int .i64 x.hour, .int .i64 x.berth, .bool x.out, .int .i64 x.draught, .int .i64 x.most, .int .i64 x.tugs])).run Try.prog w = .ok (.bool false) w := by
  have u3 := Try.underlying3;have a3 := Try.isAgg3;have z3 := Try.sizeOf3;have u4 := Try.underlying4;have a4 := Try.isAgg4;have z4 := Try.sizeOf4;have hS : Try.prog.underlying 173 = some (.struct (Try.prog.fieldsOf 173)) := by kernel_rfl
  have hp : Try.prog.stoodInHeld 173 = false := by kernel_rfl
  rw [run_neq_struct, show (10000 : Nat) = 9999 + 1 from rfl, run_equalIn_agg w 9999 173 _ _ hS hp];simp only [Program.fieldsOf, Try.underlying173];go_simp
theorem eqRCal_same (A : Option Addr) (c : Nat) (l : List Cal) (B : Option Addr) (d : Nat) (w : World) (hr : Rd w 6 A l.length (cacs l)) (hr2 : Rd w 6 B l.length (cacs l)) (hm : l.length ≤ 9223372036854775807) :
    Calls Try.prog 98 #[.slice A l.length c, .slice B l.length d] w fun e w' => e = .returned (.bool true) ∧ Below w.heap.size w w' := by
  go_enter Try.func98, Try.ntmps98
  go_wp2_with fail
  go_loopg [13] (l.length) (fun g i wr => ∃ k : Nat, g + k = l.length ∧ i = .int .i64 k ∧ Keep [] w wr)
  case atStart => exact ⟨0, rfl, rfl, Keep.refl _ _⟩
  case round =>
    obtain ⟨k, hk, rfl, hK⟩ := hrel;have HB := Lib.hid hK;by_cases hlt : k < l.length
    · obtain ⟨b, off, rfl, hbb, hc⟩ := hr.2 (by omega);obtain ⟨b2, off2, rfl, hbb2, hc2⟩ := hr2.2 (by omega);obtain ⟨x, hx'⟩ : ∃ x, x = l[k] := ⟨_, rfl⟩;obtain ⟨s0, s1, s2, s3, s4, s5⟩ := cacs_get hlt;rw [← hx'] at s0 s1 s2 s3 s4 s5;have bk : ∀ o u, w.cell? ⟨b, o, none⟩ = some u → wr.cell? ⟨b, o, none⟩ = some u := fun o u h => hK.cell h (by simp);have bk2 : ∀ o u, w.cell? ⟨b2, o, none⟩ = some u → wr.cell? ⟨b2, o, none⟩ = some u := fun o u h => hK.cell h (by simp);have c0 := bk (off + k*6) _ (hc _ _ s0);have d0 := bk2 (off2 + k*6) _ (hc2 _ _ s0);have c1 := bk (off + k*6 + 1) _ (hc _ _ s1);have d1 := bk2 (off2 + k*6 + 1) _ (hc2 _ _ s1);have c2 := bk (off + k*6 + 2) _ (hc _ _ s2);have d2 := bk2 (off2 + k*6 + 2) _ (hc2 _ _ s2);have c3 := bk (off + k*6 + 3) _ (hc _ _ s3);have d3 := bk2 (off2 + k*6 + 3) _ (hc2 _ _ s3);have c4 := bk (off + k*6 + 4) _ (hc _ _ s4);have d4 := bk2 (off2 + k*6 + 4) _ (hc2 _ _ s4);have c5 := bk (off + k*6 + 5) _ (hc _ _ s5);have d5 := bk2 (off2 + k*6 + 5) _ (hc2 _ _ s5);clear bk bk2 s0 s1 s2 s3 s4 s5;have hkI : (0 : Int) ≤ (k : Int) ∧ (k : Int) < (l.length : Int) := by omega
      clear hx' hK hc hc2 hr hr2;have hne : ∀ w, (binOp .neq 173 (.agg #[.int .i64 x.hour, .int .i64 x.berth, .bool x.out, .int .i64 x.draught, .int .i64 x.most, .int .i64 x.tugs]) (.agg #[.int .i64 x.hour, .int .i64 x.berth, .bool x.out, .int .i64 x.draught, .int .i64 x.most, .int .i64 x.tugs])).run Try.prog w = .ok (.bool false) w := fun w => sameRCal x w;go_upto_region 6 with fail
      go_quiet (fail);go_wp2_with fail
      go_roundg (gk - 1);case measure => omega
      case rel => exact ⟨k + 1, by omega, by go_num, HB.out.drewN _⟩
    · obtain rfl : k = l.length := by omega
      clear hK;go_wp2_with fail
      go_ret;exact ⟨rfl, HB.out.below (Nat.le_refl _) (by simp)⟩
theorem sameRSwp (x : Swp) (w : World) : (binOp .neq 174 (.agg #[.int .i64 x.hour, .int .i64 x.channel, .int .i64 x.tugs]) (.agg #[.int .i64 x.hour, .int .i64 x.channel, .int .i64 x.tugs])).run Try.prog w = .ok (.bool false) w := by
  have u3 := Try.underlying3;have a3 := Try.isAgg3;have z3 := Try.sizeOf3;have hS : Try.prog.underlying 174 = some (.struct (Try.prog.fieldsOf 174)) := by kernel_rfl
  have hp : Try.prog.stoodInHeld 174 = false := by kernel_rfl
  rw [run_neq_struct, show (10000 : Nat) = 9999 + 1 from rfl, run_equalIn_agg w 9999 174 _ _ hS hp];simp only [Program.fieldsOf, Try.underlying174];go_simp
theorem eqRSwp_same (A : Option Addr) (c : Nat) (l : List Swp) (B : Option Addr) (d : Nat) (w : World) (hr : Rd w 3 A l.length (swcs l)) (hr2 : Rd w 3 B l.length (swcs l)) (hm : l.length ≤ 9223372036854775807) :
    Calls Try.prog 99 #[.slice A l.length c, .slice B l.length d] w fun e w' => e = .returned (.bool true) ∧ Below w.heap.size w w' := by
  go_enter Try.func99, Try.ntmps99
  go_wp2_with fail
  go_loopg [13] (l.length) (fun g i wr => ∃ k : Nat, g + k = l.length ∧ i = .int .i64 k ∧ Keep [] w wr)
  case atStart => exact ⟨0, rfl, rfl, Keep.refl _ _⟩
  case round =>
    obtain ⟨k, hk, rfl, hK⟩ := hrel;have HB := Lib.hid hK;by_cases hlt : k < l.length
    · obtain ⟨b, off, rfl, hbb, hc⟩ := hr.2 (by omega);obtain ⟨b2, off2, rfl, hbb2, hc2⟩ := hr2.2 (by omega);obtain ⟨x, hx'⟩ : ∃ x, x = l[k] := ⟨_, rfl⟩;obtain ⟨s0, s1, s2⟩ := swcs_get hlt;rw [← hx'] at s0 s1 s2;have bk : ∀ o u, w.cell? ⟨b, o, none⟩ = some u → wr.cell? ⟨b, o, none⟩ = some u := fun o u h => hK.cell h (by simp);have bk2 : ∀ o u, w.cell? ⟨b2, o, none⟩ = some u → wr.cell? ⟨b2, o, none⟩ = some u := fun o u h => hK.cell h (by simp);have c0 := bk (off + k*3) _ (hc _ _ s0);have d0 := bk2 (off2 + k*3) _ (hc2 _ _ s0);have c1 := bk (off + k*3 + 1) _ (hc _ _ s1);have d1 := bk2 (off2 + k*3 + 1) _ (hc2 _ _ s1);have c2 := bk (off + k*3 + 2) _ (hc _ _ s2);have d2 := bk2 (off2 + k*3 + 2) _ (hc2 _ _ s2);clear bk bk2 s0 s1 s2;have hkI : (0 : Int) ≤ (k : Int) ∧ (k : Int) < (l.length : Int) := by omega
      clear hx' hK hc hc2 hr hr2;have hne : ∀ w, (binOp .neq 174 (.agg #[.int .i64 x.hour, .int .i64 x.channel, .int .i64 x.tugs]) (.agg #[.int .i64 x.hour, .int .i64 x.channel, .int .i64 x.tugs])).run Try.prog w = .ok (.bool false) w := fun w => sameRSwp x w;go_upto_region 6 with fail
      go_quiet (fail);go_wp2_with fail
      go_roundg (gk - 1);case measure => omega
      case rel => exact ⟨k + 1, by omega, by go_num, HB.out.drewN _⟩
    · obtain rfl : k = l.length := by omega
      clear hK;go_wp2_with fail
      go_ret;exact ⟨rfl, HB.out.below (Nat.le_refl _) (by simp)⟩
theorem sameBrt_any (d : Int) (path : List Int) (A B : Option Addr) (c1 c2 : Nat) (w : World) (h1 : Rd w 1 A path.length (ints path)) (h2 : Rd w 1 B path.length (ints path)) (hl : path.length ≤ 1000) :
    Calls Try.prog 97 #[.agg #[.int .i64 d, .slice A path.length c1], .agg #[.int .i64 d, .slice B path.length c2]] w fun e w' => e = .returned (.bool true) ∧ Below w.heap.size w w' := by
  have hd : (d == d) = true := by simp
  have hk : ∀ wx, Below w.heap.size w wx → Calls Try.prog 37 #[.slice A path.length c1, .slice B path.length c2] wx fun e w' => e = .returned (.bool true) ∧ Below w.heap.size w w' := by
    intro wx hb;refine (sameInts_any A c1 path B c2 wx (h1.below hb) (h2.below hb) (by omega)).mono ?_;rintro e w' ⟨rfl, h⟩;exact ⟨rfl, hb.trans (h.mono hb.size)⟩
  obtain ⟨n, hn⟩ : ∃ n, n = path.length := ⟨_, rfl⟩;rw [← hn] at hk;rw [← hn];have H := Lib.hid (And.intro hk hn);clear hk hn h1 h2 hl
  go_enter Try.func97, Try.ntmps97
  go_wp2_with (go_at_call 37; refine (H.out.1 _ (((Below.refl _ _).alloc (Nat.le_refl _) _).alloc (by simp) _)).mono ?_; rintro e w' ⟨rfl, hb⟩; have HB := Lib.hid hb; clear hb)
  go_ret;exact ⟨by simp, HB.out⟩
theorem sameBrts_any (A : Option Addr) (c : Nat) (L : List BrR) (B : Option Addr) (d : Nat) (M : List BrR) (w : World) (hr : Rd w 2 A L.length (brcs L)) (hr2 : Rd w 2 B L.length (brcs M)) (hb : L.map (·.b) = M.map (·.b)) (hp : ∀ y ∈ L, Rd w 1 y.A y.b.path.length (ints y.b.path) ∧ y.b.path.length ≤ 1000) (hp2 : ∀ y ∈ M, Rd w 1 y.A y.b.path.length (ints y.b.path)) (hm : L.length ≤ 1000) :
    Calls Try.prog 96 #[.slice A L.length c, .slice B L.length d, .func (.func 97) #[] #[]] w fun e w' => e = .returned (.bool true) ∧ Below w.heap.size w w' := by
  have hlen : M.length = L.length := by have := congrArg List.length hb; simpa using this.symm
  have H := Lib.hid (And.intro hr (And.intro hr2 (And.intro hb (And.intro hp hp2))));have hne : ((L.length : Int) != (L.length : Int)) = false := by simp
  clear hr hr2 hb hp hp2
  go_enter Try.func96, Try.ntmps96
  go_wp2_with fail
  go_loopg [17] (L.length) (fun g i wr => ∃ k : Nat, g + k = L.length ∧ i = .int .i64 k ∧ Below w.heap.size w wr)
  case atStart => exact ⟨0, rfl, rfl, Below.refl _ _⟩
  case round =>
    obtain ⟨k, hk, rfl, hb⟩ := hrel;by_cases hlt : k < L.length
    · obtain ⟨b1, o1, rfl, z1, k1⟩ := H.out.1.2 (by omega);obtain ⟨b2, o2, rfl, z2, k2⟩ := H.out.2.1.2 (by omega);obtain ⟨g0, g1⟩ := brcs_get (l := L) (k := k) hlt;obtain ⟨g2, g3⟩ := brcs_get (l := M) (k := k) (by omega);have hLk := H.out.2.2.2.1 _ (List.getElem_mem hlt);have hMk := H.out.2.2.2.2 _ (List.getElem_mem (show k < M.length by omega));have heq : L[k].b = (M[k]'(by omega)).b := by
        have h := congrArg (fun l => l[k]?) H.out.2.2.1;simp [List.getElem?_eq_getElem hlt, List.getElem?_eq_getElem (show k < M.length by omega)] at h;exact h
      obtain ⟨⟨⟨dp, path⟩, A1, c1⟩, hy⟩ : ∃ y, y = L[k] := ⟨_, rfl⟩;obtain ⟨⟨⟨dp2, path2⟩, A2, c2⟩, hy2⟩ : ∃ y, y = M[k]'(by omega) := ⟨_, rfl⟩;rw [← hy] at g0 g1 hLk heq;rw [← hy2] at g2 g3 hMk heq;simp only at g0 g1 g2 g3 hLk hMk heq;obtain ⟨rfl, rfl⟩ : dp2 = dp ∧ path2 = path := by injection heq with e1 e2; exact ⟨e1.symm, e2.symm⟩
      have c0 := (hb.cell (p := ⟨b1, o1 + k * 2, none⟩) z1).trans (k1 _ _ g0);have c1' := (hb.cell (p := ⟨b1, o1 + k * 2 + 1, none⟩) z1).trans (k1 (k * 2 + 1) _ g1);have c2' := (hb.cell (p := ⟨b2, o2 + k * 2, none⟩) z2).trans (k2 _ _ g2);have c3 := (hb.cell (p := ⟨b2, o2 + k * 2 + 1, none⟩) z2).trans (k2 (k * 2 + 1) _ g3);have hcall : ∀ wx, Below w.heap.size w wx → Calls Try.prog 97 #[.agg #[.int .i64 dp2, .slice A1 path2.length c1], .agg #[.int .i64 dp2, .slice A2 path2.length c2]] wx fun e w' => e = .returned (.bool true) ∧ Below w.heap.size w w' := by
        intro wx hb';refine (sameBrt_any dp2 path2 A1 A2 c1 c2 wx (hLk.1.below hb') (hMk.below hb') hLk.2).mono ?_;rintro e w' ⟨rfl, h⟩;exact ⟨rfl, hb'.trans (h.mono hb'.size)⟩
      obtain ⟨n, hn⟩ : ∃ n, n = path2.length := ⟨_, rfl⟩;rw [← hn] at hcall c1' c3;have zb1 : b1 < wr.heap.size := by have := hb.size; omega
      have zb2 : b2 < wr.heap.size := by have := hb.size; omega
      have n2 : (k : Int) < (L.length : Int) := by omega
      have HC := Lib.hid (And.intro hcall hb);clear k1 k2 g0 g1 g2 g3 hLk hMk hy hy2 hcall hn hb heq;go_wp2_with (go_at_call 97; refine (HC.out.1 _ ((HC.out.2.alloc HC.out.2.size _).alloc (by have := HC.out.2.size; simp; omega) _)).mono ?_; rintro e w' ⟨rfl, hb'⟩; have HB := Lib.hid hb'; clear hb')
      go_roundg (gk - 1);case measure => omega
      case rel => exact ⟨k + 1, by omega, by go_num, HB.out⟩
    · have HB := Lib.hid hb;clear hb;obtain rfl : k = L.length := by omega
      go_wp2_with fail
      go_ret;exact ⟨rfl, HB.out⟩
theorem samePort_any (Ac : Option Addr) (cc : Nat) (Ab : Option Addr) (cb : Nat) (Ac2 : Option Addr) (cc2 : Nat) (Ab2 : Option Addr) (cb2 : Nat) (p : Prt) (w : World) (hp : PrtB w.heap.size w Ac cc Ab cb p) (hq : PrtB w.heap.size w Ac2 cc2 Ab2 cb2 p) (hl : p.chs.length ≤ 1000) (hs : p.bts.length ≤ 1000) (hpl : ∀ b ∈ p.bts, b.path.length ≤ 1000) :
    Calls Try.prog 40 #[.agg (prtV Ac cc Ab cb p), .agg (prtV Ac2 cc2 Ab2 cb2 p)] w fun e w' => e = .returned (.bool true) ∧ Below w.heap.size w w' := by
  obtain ⟨W, hW⟩ : ∃ W, W = (w.alloc (.cells (prtV Ac cc Ab cb p) 26)).alloc (.cells (prtV Ac2 cc2 Ab2 cb2 p) 79) := ⟨_, rfl⟩;have b0 : Below w.heap.size w W := by rw [hW]; exact ((Below.refl _ _).alloc (Nat.le_refl _) _).alloc (by simp) _
  have kc : Calls Try.prog 34 #[.agg (prtV Ac cc Ab cb p)] W _ := portR_any Ac cc Ab cb p W ((hp.below b0).mono b0.size) hl hs hpl;have gp : W.heap[w.heap.size]? = some (.cells (prtV Ac cc Ab cb p) 26 (0, 0)) := by rw [hW]; exact hA_ (heap_alloc_new _ _) _
  have gq : W.heap[w.heap.size + 1]? = some (.cells (prtV Ac2 cc2 Ab2 cb2 p) 79 (0, 0)) := by
    rw [hW];have := heap_alloc_new (w.alloc (.cells (prtV Ac cc Ab cb p) 26)) (.cells (prtV Ac2 cc2 Ab2 cb2 p) 79)
    rwa [World.size_alloc] at this
  have HG := Lib.hid (And.intro gp gq);have HH := Lib.hid (And.intro kc (And.intro b0 (And.intro hq (And.intro hl (And.intro hs hpl)))));have ht : (p.tugs == p.tugs) = true := by simp
  have zgp := hL_ gp;have zgq := hL_ gq;have gp0 : W.cell? ⟨w.heap.size, 0, none⟩ = some (.slice Ac p.chs.length cc) := (cOH gp 0).trans rfl;have gp1 : W.cell? ⟨w.heap.size, 1, none⟩ = some (.slice Ab p.bts.length cb) := (cOH gp 1).trans rfl;have gp2 : W.cell? ⟨w.heap.size, 2, none⟩ = some (.int .i64 p.tugs) := (cOH gp 2).trans rfl;clear kc b0 hp hq hl hs hpl gp gq
  go_enter Try.func40, Try.ntmps40
  go_upto_region 1 with fail
  rw [← hW];clear hW;go_upto_region 2 with (go_at_call 34; refine HH.out.1.mono ?_; rintro e w1 hnew; obtain ⟨A1, n1, A2, n2, rfl, hp1, hb1⟩ := hnew.use; have H1 := Lib.hid (And.intro hp1 hb1); clear hp1 hb1)
  obtain ⟨X, hX⟩ : ∃ X, X = w1.alloc (.cells (prtV A1 n1 A2 n2 p) 79) := ⟨_, rfl⟩;obtain ⟨xb, hxb⟩ : ∃ b, b = w1.heap.size := ⟨_, rfl⟩;rw [← hX, ← hxb];obtain ⟨-, b0, hq, hl, hs, hpl⟩ := HH.out;obtain ⟨hp1, hb1⟩ := H1.out;obtain ⟨gp, gq⟩ := HG.out;clear gp0 gp1 gp2;have bX : Below w1.heap.size w1 X := by rw [hX]; exact (Below.refl _ _).alloc (Nat.le_refl _) _
  have x0 : X.cell? ⟨xb, 0, none⟩ = some (.slice A1 p.chs.length n1) := by rw [hX, hxb]; exact (cOH (heap_alloc_new w1 _) 0).trans rfl
  have x1 : X.cell? ⟨xb, 1, none⟩ = some (.slice A2 p.bts.length n2) := by rw [hX, hxb]; exact (cOH (heap_alloc_new w1 _) 1).trans rfl
  have zx : xb < X.heap.size := by rw [hX, hxb]; simp
  have BX : Below w.heap.size w X := (b0.trans (hb1.mono b0.size)).trans (bX.mono (by have := b0.size; have := hb1.size; omega));have BW : Below W.heap.size W X := hb1.trans (bX.mono hb1.size);have p2 : X.cell? ⟨w.heap.size, 2, none⟩ = some (.int .i64 p.tugs) := (BW.cell (p := ⟨w.heap.size, 2, none⟩) (hL_ gp)).trans ((cOH gp 2).trans rfl);have q0 : X.cell? ⟨w.heap.size + 1, 0, none⟩ = some (.slice Ac2 p.chs.length cc2) := (BW.cell (p := ⟨w.heap.size + 1, 0, none⟩) (hL_ gq)).trans ((cOH gq 0).trans rfl);have q1 : X.cell? ⟨w.heap.size + 1, 1, none⟩ = some (.slice Ab2 p.bts.length cb2) := (BW.cell (p := ⟨w.heap.size + 1, 1, none⟩) (hL_ gq)).trans ((cOH gq 1).trans rfl);have q2 : X.cell? ⟨w.heap.size + 1, 2, none⟩ = some (.int .i64 p.tugs) := (BW.cell (p := ⟨w.heap.size + 1, 2, none⟩) (hL_ gq)).trans ((cOH gq 2).trans rfl);have zp : w.heap.size + 1 < X.heap.size := by have := hL_ gq; have := BW.size; omega
  have zp' : w.heap.size < X.heap.size := by omega
  obtain ⟨L, hL, hLr, hLp⟩ := hp1.bts.rows;obtain ⟨M, hM, hMr, hMp⟩ := hq.bts.rows;have hLl : L.length = p.bts.length := by rw [← hL]; simp
  have k1 : ∀ wx, Keep [] X wx → Calls Try.prog 95 #[.slice A1 p.chs.length n1, .slice Ac2 p.chs.length cc2] wx fun e w' => e = .returned (.bool true) ∧ Below wx.heap.size wx w' := fun wx hk =>
    eqRChn_same A1 n1 p.chs Ac2 cc2 wx (hk.rd ((hp1.chs.below bX).rd bX.size) (by simp)) (hk.rd ((hq.chs.below BX).rd BX.size) (by simp)) (by omega)
  have k2 : ∀ wx, Keep [] X wx → Calls Try.prog 96 #[.slice A2 p.bts.length n2, .slice Ab2 p.bts.length cb2, .func (.func 97) #[] #[]] wx fun e w' => e = .returned (.bool true) ∧ Below wx.heap.size wx w' := fun wx hk => by
    rw [← hLl];refine sameBrts_any A2 n2 L Ab2 cb2 M wx ?_ ?_ (by rw [hL, hM]) (fun y hy => ⟨hk.rd (((hLp y hy).below bX).1.rd bX.size) (by simp), hpl _ (by rw [← hL]; exact List.mem_map.2 ⟨_, hy, rfl⟩)⟩) (fun y hy => hk.rd (((hMp y hy).below BX).1.rd BX.size) (by simp)) (by omega)
    · rw [hLl]; exact hk.rd ((hLr.below bX).rd bX.size) (by simp)
    · rw [hLl]; exact hk.rd ((hMr.below BX).rd BX.size) (by simp)
  have HK := Lib.hid (And.intro k1 (And.intro k2 BX));clear hX hxb b0 hq hl hs hpl hp1 hb1 bX BX gp gq BW hL hLr hLp hM hMr hMp hLl k1 k2;go_wp2_with (first | (go_at_call 95; refine (HK.out.1 _ (Keep.refl _ _)).mono ?_; rintro e w2 ⟨rfl, hb2⟩; obtain ⟨hc2, hf2⟩ := bcell hb2; have H2 := Lib.hid hb2; clear hb2) | (go_at_call 96; refine (HK.out.2.1 _ (Keep.of_below H2.out)).mono ?_; rintro e w3 ⟨rfl, hb3⟩; have H3 := Lib.hid hb3; clear hb3))
  go_ret;exact ⟨by simp, (HK.out.2.2.trans (H2.out.mono HK.out.2.2.size)).trans (H3.out.mono (by have := HK.out.2.2.size; have := H2.out.size; omega))⟩
theorem samePlan_any (Al : Option Addr) (cl : Nat) (As : Option Addr) (cs : Nat) (Al2 : Option Addr) (cl2 : Nat) (As2 : Option Addr) (cs2 : Nat) (l : Pln) (w : World) (hp : PlnB w.heap.size w Al cl As cs l) (hq : PlnB w.heap.size w Al2 cl2 As2 cs2 l) (hl : l.calls.length ≤ 1000) (hs : l.swps.length ≤ 1000) :
    Calls Try.prog 41 #[.agg (plnV Al cl As cs l), .agg (plnV Al2 cl2 As2 cs2 l)] w fun e w' => e = .returned (.bool true) ∧ Below w.heap.size w w' := by
  obtain ⟨W, hW⟩ : ∃ W, W = (w.alloc (.cells (plnV Al cl As cs l) 31)).alloc (.cells (plnV Al2 cl2 As2 cs2 l) 85) := ⟨_, rfl⟩;have b0 : Below w.heap.size w W := by rw [hW]; exact ((Below.refl _ _).alloc (Nat.le_refl _) _).alloc (by simp) _
  have kc : Calls Try.prog 35 #[.agg (plnV Al cl As cs l)] W _ := planR_any Al cl As cs l W ((hp.below b0).mono b0.size) hl hs;have gp : W.heap[w.heap.size]? = some (.cells (plnV Al cl As cs l) 31 (0, 0)) := by rw [hW]; exact hA_ (heap_alloc_new _ _) _
  have gq : W.heap[w.heap.size + 1]? = some (.cells (plnV Al2 cl2 As2 cs2 l) 85 (0, 0)) := by
    rw [hW];have := heap_alloc_new (w.alloc (.cells (plnV Al cl As cs l) 31)) (.cells (plnV Al2 cl2 As2 cs2 l) 85)
    rwa [World.size_alloc] at this
  have HG := Lib.hid (And.intro gp gq);have HH := Lib.hid (And.intro kc (And.intro b0 (And.intro hq (And.intro hl hs))));have ht : (l.hours == l.hours) = true := by simp
  have zgp := hL_ gp;have zgq := hL_ gq;have gp0 : W.cell? ⟨w.heap.size, 0, none⟩ = some (.int .i64 l.hours) := (cOH gp 0).trans rfl;have gp1 : W.cell? ⟨w.heap.size, 1, none⟩ = some (.slice Al l.calls.length cl) := (cOH gp 1).trans rfl;have gp2 : W.cell? ⟨w.heap.size, 2, none⟩ = some (.slice As l.swps.length cs) := (cOH gp 2).trans rfl;clear kc b0 hp hq hl hs gp gq
  go_enter Try.func41, Try.ntmps41
  go_upto_region 1 with fail
  rw [← hW];clear hW;go_upto_region 2 with (go_at_call 35; refine HH.out.1.mono ?_; rintro e w1 hnew; obtain ⟨A1, n1, A2, n2, rfl, hp1, hb1⟩ := hnew.use; have H1 := Lib.hid (And.intro hp1 hb1); clear hp1 hb1)
  obtain ⟨X, hX⟩ : ∃ X, X = w1.alloc (.cells (plnV A1 n1 A2 n2 l) 85) := ⟨_, rfl⟩;obtain ⟨xb, hxb⟩ : ∃ b, b = w1.heap.size := ⟨_, rfl⟩;rw [← hX, ← hxb];obtain ⟨-, b0, hq, hl, hs⟩ := HH.out;obtain ⟨hp1, hb1⟩ := H1.out;obtain ⟨gp, gq⟩ := HG.out;clear gp0 gp1 gp2;have bX : Below w1.heap.size w1 X := by rw [hX]; exact (Below.refl _ _).alloc (Nat.le_refl _) _
  have x0 : X.cell? ⟨xb, 0, none⟩ = some (.int .i64 l.hours) := by rw [hX, hxb]; exact (cOH (heap_alloc_new w1 _) 0).trans rfl
  have x1 : X.cell? ⟨xb, 1, none⟩ = some (.slice A1 l.calls.length n1) := by rw [hX, hxb]; exact (cOH (heap_alloc_new w1 _) 1).trans rfl
  have x2 : X.cell? ⟨xb, 2, none⟩ = some (.slice A2 l.swps.length n2) := by rw [hX, hxb]; exact (cOH (heap_alloc_new w1 _) 2).trans rfl
  have zx : xb < X.heap.size := by rw [hX, hxb]; simp
  have BX : Below w.heap.size w X := (b0.trans (hb1.mono b0.size)).trans (bX.mono (by have := b0.size; have := hb1.size; omega));have BW : Below W.heap.size W X := hb1.trans (bX.mono hb1.size);have q0 : X.cell? ⟨w.heap.size + 1, 0, none⟩ = some (.int .i64 l.hours) := (BW.cell (p := ⟨w.heap.size + 1, 0, none⟩) (hL_ gq)).trans ((cOH gq 0).trans rfl);have q1 : X.cell? ⟨w.heap.size + 1, 1, none⟩ = some (.slice Al2 l.calls.length cl2) := (BW.cell (p := ⟨w.heap.size + 1, 1, none⟩) (hL_ gq)).trans ((cOH gq 1).trans rfl);have q2 : X.cell? ⟨w.heap.size + 1, 2, none⟩ = some (.slice As2 l.swps.length cs2) := (BW.cell (p := ⟨w.heap.size + 1, 2, none⟩) (hL_ gq)).trans ((cOH gq 2).trans rfl);have zp : w.heap.size + 1 < X.heap.size := by have := hL_ gq; have := BW.size; omega
  have k1 : ∀ wx, Keep [] X wx → Calls Try.prog 98 #[.slice A1 l.calls.length n1, .slice Al2 l.calls.length cl2] wx fun e w' => e = .returned (.bool true) ∧ Below wx.heap.size wx w' := fun wx hk =>
    eqRCal_same A1 n1 l.calls Al2 cl2 wx (hk.rd ((hp1.calls.below bX).rd bX.size) (by simp)) (hk.rd ((hq.calls.below BX).rd BX.size) (by simp)) (by omega)
  have k2 : ∀ wx, Keep [] X wx → Calls Try.prog 99 #[.slice A2 l.swps.length n2, .slice As2 l.swps.length cs2] wx fun e w' => e = .returned (.bool true) ∧ Below wx.heap.size wx w' := fun wx hk =>
    eqRSwp_same A2 n2 l.swps As2 cs2 wx (hk.rd ((hp1.swps.below bX).rd bX.size) (by simp)) (hk.rd ((hq.swps.below BX).rd BX.size) (by simp)) (by omega)
  have HK := Lib.hid (And.intro k1 (And.intro k2 BX));clear hX hxb b0 hq hl hs hp1 hb1 bX BX gp gq BW k1 k2;go_wp2_with (first | (go_at_call 98; refine (HK.out.1 _ (Keep.refl _ _)).mono ?_; rintro e w2 ⟨rfl, hb2⟩; obtain ⟨hc2, hf2⟩ := bcell hb2; have H2 := Lib.hid hb2; clear hb2) | (go_at_call 99; refine (HK.out.2.1 _ (Keep.of_below H2.out)).mono ?_; rintro e w3 ⟨rfl, hb3⟩; have H3 := Lib.hid hb3; clear hb3))
  go_ret;exact ⟨by simp, (HK.out.2.2.trans (H2.out.mono HK.out.2.2.size)).trans (H3.out.mono (by have := HK.out.2.2.size; have := H2.out.size; omega))⟩
end Go.Proofs.Ythmldeningpjbaa
namespace Go.Proofs.Ythmldeningpjbaa
open Go Go.RowKit Sp
theorem sameTruths_any (A : Option Addr) (c : Nat) (l : List Bool) (B : Option Addr) (d : Nat) (w : World) (hr : Rd w 1 A l.length (bools l)) (hr2 : Rd w 1 B l.length (bools l)) (hm : l.length ≤ 9223372036854775807) :
    Calls Try.prog 100 #[.slice A l.length c, .slice B l.length d] w fun e w' => e = .returned (.bool true) ∧ Below w.heap.size w w' := by
  have HR := Lib.hid (And.intro hr hr2);clear hr hr2
  go_enter Try.func100, Try.ntmps100
  go_wp2_with fail
  go_loopw [5] (fun i wr => ∃ k : Nat, k ≤ l.length ∧ i = .int .i64 k ∧ Below w.heap.size w wr) (fun i _ => l.length - (intOf i).toNat)
  case atStart => exact ⟨0, Nat.zero_le _, rfl, Below.refl _ _⟩
  case round =>
    obtain ⟨k, hk, rfl, hb⟩ := hrel;by_cases hlt : k < l.length
    · obtain ⟨b1, o1, rfl, z1, k1⟩ := HR.out.1.2 (by omega);obtain ⟨b2, o2, rfl, z2, k2⟩ := HR.out.2.2 (by omega);obtain ⟨x, hx⟩ : ∃ x, x = l.getD k false := ⟨_, rfl⟩;have c1 := (hb.cell (p := ⟨b1, o1 + k, none⟩) z1).trans (k1 k _ (bools_get hlt));have c2 := (hb.cell (p := ⟨b2, o2 + k, none⟩) z2).trans (k2 k _ (bools_get hlt));rw [← hx] at c1 c2;have hxx : (x != x) = false := by simp
      have n1 : (0 : Int) ≤ (k : Int) := by omega
      have n2 : (k : Int) < (l.length : Int) := by omega
      have HB := Lib.hid hb;clear k1 k2 hx hb z1 z2;go_upto_region 6 with fail
      go_quiet (fail);go_wp2_with fail
      go_roundw;case measure => simp [intOf]; omega
      case rel => exact ⟨k + 1, by omega, by go_num, bKD HB.out _⟩
    · have HB := Lib.hid hb;clear hb;go_wp2_with fail
      go_ret;exact ⟨rfl, HB.out⟩
theorem infoKS : (Try.prog.info? 3).map (fun i => (i.zero, i.size, i.bytes)) = some (some (.int .i64 0), 1, 8) := by kernel_rfl
theorem copyIntsS_any (A : Option Addr) (c : Nat) (l : List Int) (w : World) (hr : Rd w 1 A l.length (ints l)) (hl : l.length ≤ 100000000) :
    Calls Try.prog 87 #[.slice A l.length c] w (CloneS w 3 1 l.length (ints l)) := by
  obtain ⟨i0, hi, hz0, hz1, hz2⟩ := info_parts infoKS;have HR := Lib.hid hr;clear hr
  go_enter Try.func87, Try.ntmps87
  go_wp2_with (at_builtin
               refine wpList_append_M (size := 1) rfl (.tmp 4) (.tmp 5) 33 rfl i0 _ 8 Try.underlying33 hi hz0 hz1 hz2 rfl (A := none) (n := 0) (c := 0) (B := A) (m := l.length) (d := c) (xs := []) (fp := []) (ys := ints l) (by simp [Act.eval]) (by simp [Act.eval]) (OwnS.nil _ _ _) HR.out (by intro u hu; obtain ⟨x, _, rfl⟩ := List.mem_map.1 hu; rfl) (by omega) (by omega) ?_;intro A' c' w' fp' h1 h2 h3;have HQ := Lib.hid (And.intro h1 (And.intro h2 h3));clear h1 h2 h3)
  go_ret;have h1 := HQ.out.1;rw [Nat.zero_add, List.nil_append] at h1;refine ⟨A', c', fp', by simp, h1, fun g hg => ?_, HQ.out.2.2.below (Nat.le_refl _) (by simp)⟩;rcases HQ.out.2.1 g hg with h | h
  · simp at h
  · omega
theorem infoKT : (Try.prog.info? 4).map (fun i => (i.zero, i.size, i.bytes)) = some (some (.bool false), 1, 1) := by kernel_rfl
theorem copyTruthsS_any (A : Option Addr) (c : Nat) (l : List Bool) (w : World) (hr : Rd w 1 A l.length (bools l)) (hl : l.length ≤ 100000000) :
    Calls Try.prog 88 #[.slice A l.length c] w (CloneS w 4 1 l.length (bools l)) := by
  obtain ⟨i0, hi, hz0, hz1, hz2⟩ := info_parts infoKT;have HR := Lib.hid hr;clear hr
  go_enter Try.func88, Try.ntmps88
  go_wp2_with (at_builtin
               refine wpList_append_M (size := 1) rfl (.tmp 4) (.tmp 5) 40 rfl i0 _ 1 Try.underlying40 hi hz0 hz1 hz2 rfl (A := none) (n := 0) (c := 0) (B := A) (m := l.length) (d := c) (xs := []) (fp := []) (ys := bools l) (by simp [Act.eval]) (by simp [Act.eval]) (OwnS.nil _ _ _) HR.out (by intro u hu; obtain ⟨x, _, rfl⟩ := List.mem_map.1 hu; rfl) (by omega) (by omega) ?_;intro A' c' w' fp' h1 h2 h3;have HQ := Lib.hid (And.intro h1 (And.intro h2 h3));clear h1 h2 h3)
  go_ret;have h1 := HQ.out.1;rw [Nat.zero_add, List.nil_append] at h1;refine ⟨A', c', fp', by simp, h1, fun g hg => ?_, HQ.out.2.2.below (Nat.le_refl _) (by simp)⟩;rcases HQ.out.2.1 g hg with h | h
  · simp at h
  · omega
end Go.Proofs.Ythmldeningpjbaa
namespace Go.Proofs.Ythmldeningpjbaa
open Go Go.RowKit Sp Pt
theorem callsN_lens (p : Prt) (h : Int) : ∀ (l : List Cal) (i : Nat) (s : Stt), (callsN p h l i s).2.2.brash.length = s.brash.length ∧ (callsN p h l i s).2.2.busy.length = s.busy.length
  | [], _, _ => ⟨rfl, rfl⟩
  | c :: l, i, s => by
    rw [callsN];split
    · exact callsN_lens p h l _ _
    · split
      · exact ⟨rfl, rfl⟩
      · split
        · exact ⟨rfl, rfl⟩
        · have := callsN_lens p h l (i + 1) ⟨growN p (bt p c.berth).path s.brash, s.busy.set c.berth.toNat (!c.out)⟩;rw [this.1, this.2];simp [growN_length]
theorem hourR_lens (p : Prt) (l : Pln) (k : Nat) (s : Stt) : (hourR p l k s).2.2.brash.length = s.brash.length ∧ (hourR p l k s).2.2.busy.length = s.busy.length := by
  have := callsN_lens p k l.calls 0 ⟨swpN p k l.swps s.brash, s.busy⟩;unfold hourR;rw [this.1, this.2];simp [swpN_length]
theorem stN_lens (p : Prt) (l : Pln) (s : Stt) : ∀ k, (stN p l s k).brash.length = s.brash.length ∧ (stN p l s k).busy.length = s.busy.length
  | 0 => ⟨rfl, rfl⟩
  | k + 1 => by
    have h1 := hourR_lens p l k (stN p l s k);have h2 := stN_lens p l s k;rw [stN];unfold hourS frostL;simp only [frostN_length];exact ⟨h1.1.trans h2.1, h1.2.trans h2.2⟩
theorem Own.new2 {D : Nat} {W0 w w' : World} {L : List It} (h : Own D W0 L w) (k1 k2 : Nat) (hk : k1 ≠ k2) (h1 : L[k1]? = some noIt) (h2 : L[k2]? = some noIt) (hb : Below w.heap.size w w') {i1 i2 : It} (g1 : i1.holds D w') (g2 : i2.holds D w') (f1 : ∀ x ∈ i1.fp, w.heap.size ≤ x) (f2 : ∀ x ∈ i2.fp, w.heap.size ≤ x) (hd : ∀ x ∈ i1.fp, x ∉ i2.fp) :
    Own D W0 ((L.set k1 i1).set k2 i2) w' := by
  have l1 : k1 < L.length := (List.getElem?_eq_some_iff.1 h1).1;have l2 : k2 < L.length := (List.getElem?_eq_some_iff.1 h2).1;have hget : ∀ {a : Nat} {j : It}, ((L.set k1 i1).set k2 i2)[a]? = some j → (a = k2 ∧ j = i2) ∨ (a ≠ k2 ∧ a = k1 ∧ j = i1) ∨ (a ≠ k2 ∧ a ≠ k1 ∧ L[a]? = some j) := fun {a j} hj => by
    rw [List.getElem?_set] at hj;by_cases e : k2 = a
    · rw [if_pos e, if_pos (by simpa using l2)] at hj;injection hj with hj
      exact .inl ⟨e.symm, hj.symm⟩
    · rw [if_neg e, List.getElem?_set] at hj;by_cases e2 : k1 = a
      · rw [if_pos e2, if_pos l1] at hj;injection hj with hj
        exact .inr (.inl ⟨fun q => e q.symm, e2.symm, hj.symm⟩)
      · rw [if_neg e2] at hj;exact .inr (.inr ⟨fun q => e q.symm, fun q => e2 q.symm, hj⟩)
  refine h.updG _ (fun a => a = k1 ∨ a = k2) (S := []) (Keep.of_below hb) (by simp) (fun a j hj => ?_) (fun a j hj hc => ?_) (fun a b i j hi hj hab ha hb' x hx hy hz => ?_)
  · rcases hget hj with ⟨e, _⟩ | ⟨_, e, _⟩ | ⟨_, _, e⟩
    · exact .inl (.inr e)
    · exact .inl (.inl e)
    · exact .inr e
  · rcases hget hj with ⟨e, rfl⟩ | ⟨_, e, rfl⟩ | ⟨e1, e2, _⟩
    · exact ⟨g2, fun x hx => .inr (f2 x hx)⟩
    · exact ⟨g1, fun x hx => .inr (f1 x hx)⟩
    · rcases hc with e | e
      · exact absurd e e2
      · exact absurd e e1
  · rcases hget hi with ⟨e, rfl⟩ | ⟨_, e, rfl⟩ | ⟨e1, e2, _⟩
    · rcases hget hj with ⟨e', rfl⟩ | ⟨_, e', rfl⟩ | ⟨e1', e2', _⟩
      · omega
      · exact hd x hy hx
      · rcases hb' with q | q
        · exact absurd q e2'
        · exact absurd q e1'
    · rcases hget hj with ⟨e', rfl⟩ | ⟨_, e', rfl⟩ | ⟨e1', e2', _⟩
      · exact hd x hx hy
      · omega
      · rcases hb' with q | q
        · exact absurd q e2'
        · exact absurd q e1'
    · rcases ha with q | q
      · exact absurd q e2
      · exact absurd q e1
structure SrR where
  s : Stt
  A : Option Addr
  c : Nat
  B : Option Addr
  d : Nat
def src (y : SrR) : List Value := [.slice y.A y.s.brash.length y.c, .slice y.B y.s.busy.length y.d]
abbrev srcs (L : List SrR) : List Value := L.flatMap src
def SrH (L : List SrR) : World → Prop := fun w => ∀ y ∈ L, SttB w.heap.size w y.A y.c y.B y.d y.s
theorem sttB_of_own {w : World} {e1 e2 : TypeId} {A B : Option Addr} {c d : Nat} {s : Stt} {q1 q2 : List Nat} (h1 : OwnS w e1 1 A s.brash.length c (ints s.brash) q1) (h2 : OwnS w e2 1 B s.busy.length d (bools s.busy) q2) : SttB w.heap.size w A c B d s :=
  ⟨RdB.of h1.rd (Nat.le_refl _), RdB.of h2.rd (Nat.le_refl _), ⟨h1.ge, h1.cap, h1.nilS⟩, ⟨h2.ge, h2.cap, h2.nilS⟩⟩
theorem srH_snoc {D : Nat} {w w' : World} {e1 e2 : TypeId} {L : List SrR} {q : List Nat} {A B : Option Addr} {c d : Nat} {s : Stt} {q1 q2 : List Nat} (h : (It.gen q (SrH L)).holds D w') (h1 : OwnS w' e1 1 A s.brash.length c (ints s.brash) q1) (h2 : OwnS w' e2 1 B s.busy.length d (bools s.busy) q2) :
    (It.gen (q ++ (q1 ++ q2)) (SrH (L ++ [⟨s, A, c, B, d⟩]))).holds D w' := by
  refine ⟨fun x hx => ?_, fun S wx hk hS y hy => ?_⟩
  · rcases List.mem_append.1 hx with e | e
    · exact h.1 x e
    · rcases List.mem_append.1 e with e | e
      · exact h1.lt x e
      · exact h2.lt x e
  · rcases List.mem_append.1 hy with e | e
    · exact h.2 S wx hk (fun x hx hm => hS x hx (by simp [hm])) y e
    · rw [List.mem_singleton.1 e];exact sttB_of_own (h1.keepS hk (fun g hg hm => hS g hm (by simp [hg]))) (h2.keepS hk (fun g hg hm => hS g hm (by simp [hg])))
theorem srH_nil (D : Nat) (w : World) : (It.gen [] (SrH [])).holds D w := ⟨by simp, fun _ _ _ _ y hy => absurd hy (by simp)⟩
def SttH (A : Option Addr) (c : Nat) (B : Option Addr) (d : Nat) (s : Stt) : World → Prop := fun w => SttB w.heap.size w A c B d s
theorem Own.regroup {D : Nat} {W0 w : World} {L : List It} (h : Own D W0 L w) (n a b : Nat) {i j : It} (ha : L[a]? = some i) (hb : L[b]? = some j) (hna : n ≤ a) (hnb : n ≤ b) {g : It} (hg : g.holds D w) (hf : g.fp = i.fp ++ j.fp) : Own D W0 (L.take n ++ [g]) w := by
  refine (h.take n).add hg (fun x hx => ?_) (fun k hk x hx hm => ?_)
  · rw [hf] at hx;rcases List.mem_append.1 hx with e | e
    · exact h.ge a ha e
    · exact h.ge b hb e
  · obtain ⟨m, hm', hm2⟩ := List.mem_take_iff_getElem.1 hk;have hkm : L[m]? = some k := by rw [List.getElem?_eq_getElem (by omega), hm2]
    rw [hf] at hx;rcases List.mem_append.1 hx with e | e
    · exact h.dis a m _ _ ha hkm (by omega) x e hm
    · exact h.dis b m _ _ hb hkm (by omega) x e hm
def NewStt (w : World) (s : Stt) (e : Ending) (w' : World) : Prop := ∃ A c B d q, e = .returned (.agg (sttV A c B d s)) ∧ (∀ D, (It.gen q (SttH A c B d s)).holds D w') ∧ (∀ x ∈ q, w.heap.size ≤ x) ∧ Below w.heap.size w w'
theorem sttH_new {w : World} {e1 e2 : TypeId} {A B : Option Addr} {c d : Nat} {s : Stt} {q1 q2 : List Nat} (h1 : OwnS w e1 1 A s.brash.length c (ints s.brash) q1) (h2 : OwnS w e2 1 B s.busy.length d (bools s.busy) q2) (D : Nat) : (It.gen (q1 ++ q2) (SttH A c B d s)).holds D w :=
  ⟨fun x hx => (List.mem_append.1 hx).elim (h1.lt x) (h2.lt x), fun S wx hk hS => sttB_of_own (h1.keepS hk (fun g hg hm => hS g hm (by simp [hg]))) (h2.keepS hk (fun g hg hm => hS g hm (by simp [hg])))⟩
structure CtS where
  A1 : Option Addr
  c1 : Nat
  q1 : List Nat
  A2 : Option Addr
  c2 : Nat
  q2 : List Nat
def CtsV (sb n m cr cu : Nat) (Ar Au : Option Addr) (s : CtS) : Nat → Value → Prop
  | 0, v => v = .pointer (some ⟨sb, 0, none⟩)
  | 1, v => v = .slice Ar n cr
  | 2, v => v = .slice s.A1 n s.c1
  | 3, v => v = .pointer (some ⟨sb, 1, none⟩)
  | 4, v => v = .slice Au m cu
  | 5, v => v = .slice s.A2 m s.c2
  | 6, v => v = .agg #[.slice s.A1 n s.c1, .slice s.A2 m s.c2]
  | _, _ => True
theorem copyState_any (Ar : Option Addr) (cr : Nat) (Au : Option Addr) (cu : Nat) (s : Stt) (w : World) (SB : SttB w.heap.size w Ar cr Au cu s) (hl : s.brash.length ≤ 1000 ∧ s.busy.length ≤ 1000) :
    Calls Try.prog 32 #[.agg (sttV Ar cr Au cu s)] w (NewStt w s) := by
  obtain ⟨sb, hsb⟩ : ∃ b, b = w.heap.size := ⟨_, rfl⟩;obtain ⟨rb, hrb⟩ : ∃ b, b = w.heap.size + 1 := ⟨_, rfl⟩;obtain ⟨W, hW⟩ : ∃ W, W = (w.alloc (.cells (sttV Ar cr Au cu s) 42)).alloc (.cells #[.slice none 0 0, .slice none 0 0] 42) := ⟨_, rfl⟩;have O0 : Own w.heap.size w [.blk sb (.cells (sttV Ar cr Au cu s) 42), .blk rb (.cells #[.slice none 0 0, .slice none 0 0] 42)] W := by
    have h := (((Own.start w).alloc (.cells (sttV Ar cr Au cu s) 42)).alloc (.cells #[.slice none 0 0, .slice none 0 0] 42));rw [hW, hsb, hrb];simpa using h
  have k1 : ∀ wx, Below w.heap.size w wx → Calls Try.prog 87 #[.slice Ar s.brash.length cr] wx (CloneS wx 3 1 s.brash.length (ints s.brash)) := fun wx hb => copyIntsS_any Ar cr s.brash wx ((SB.br.below hb).rd hb.size) (by omega);have k2 : ∀ wx, Below w.heap.size w wx → Calls Try.prog 88 #[.slice Au s.busy.length cu] wx (CloneS wx 4 1 s.busy.length (bools s.busy)) := fun wx hb => copyTruthsS_any Au cu s.busy wx ((SB.bu.below hb).rd hb.size) (by omega);obtain ⟨n, hn⟩ : ∃ n, n = s.brash.length := ⟨_, rfl⟩;obtain ⟨m, hm⟩ : ∃ n, n = s.busy.length := ⟨_, rfl⟩;obtain ⟨xs, hxs⟩ : ∃ n, n = ints s.brash := ⟨_, rfl⟩;obtain ⟨ys, hys⟩ : ∃ n, n = bools s.busy := ⟨_, rfl⟩;rw [← hn, ← hxs] at k1;rw [← hm, ← hys] at k2;have HS := Lib.hid (And.intro k1 k2);have HN := Lib.hid (And.intro hn (And.intro hm (And.intro hxs hys)));simp only [sttV] at O0 hW ⊢;rw [← hn, ← hm] at O0 hW ⊢;have HO := Lib.hid O0;clear k1 k2 hn hm hxs hys O0 SB hl
  go_enter Try.func32, Try.ntmps32
  go_upto_region 1 with fail
  rw [← hW, ← hrb, ← hsb];clear hW hrb hsb;refine wRS (σ := CtS) (by kernel_rfl) (by kernel_rfl) (fun sg jx vx _ => CtsV sb n m cr cu Ar Au sg jx vx) (fun sg ly wx => Own w.heap.size w [It.blk sb (.cells #[.slice Ar n cr, .slice Au m cu] 42), It.blk rb (.cells (if ly 7 = true then #[.slice sg.A1 n sg.c1, .slice sg.A2 m sg.c2] else #[.slice none 0 0, .slice none 0 0]) 42), if ly 2 = true then It.own 3 1 sg.A1 n sg.c1 xs sg.q1 else noIt, if ly 5 = true then It.own 4 1 sg.A2 m sg.c2 ys sg.q2 else noIt] wx) ⟨none, 0, [], none, 0, []⟩ ?_ ?_ ?_
  · exact HO.out.blank.blank.drew
  · simp only [AllFrom, Nat.zero_add, Nat.reduceAdd];refine ⟨?_, ?_, ?_, ?_, ?_, ?_, ?_, ?_, trivial⟩
    · refine sP_ fun sg ly act wx hl hd hW hF => ?_;have et1 := hF.old 1 (by kernel_rfl);simp [Act.eval] at et1;exact ⟨hW, .pointer (some ⟨sb, 0, none⟩), by go_simp, rfl⟩
    · refine sP_ fun sg ly act wx hl hd hW hF => ?_;simp [Region.binds] at hd;have et3 := hF.new 0 3 (by simp [hd]) rfl;simp [CtsV, Act.eval] at et3;have hO := hW;try dsimp only at hO
      have hh := hO.heap 0 rfl;have clq0 := (cOH hh 0).trans rfl;have clq1 := (cOH hh 1).trans rfl;have zz := hL_ hh;exact ⟨hW, .slice Ar n cr, by go_simp, rfl⟩
    · refine sC_ fun sg ly act wx hl hd hW hF => ?_;simp [Region.binds] at hd;have et4 := hF.new 1 4 (by simp [hd]) rfl;simp [CtsV, Act.eval] at et4;have n6 := hF.notYet 2 6 hl (by kernel_rfl);have n7 := hF.notYet 2 7 hl (by kernel_rfl);have hO := hW;try dsimp only at hO
      simp only [hl, n7, Bool.false_eq_true, if_false, if_true] at hO;refine ⟨87, #[.slice Ar n cr], by go_simp, ?_⟩;refine (HS.out.1 wx hO.bel).mono ?_;rintro e w2 ⟨A', c', q', rfl, h1, h2, h3⟩;have hN := hO.upd 2 rfl (Keep.of_below h3) (i' := .own 3 1 A' n c' xs q') (show OwnS _ _ _ _ _ _ _ _ from h1) (fun x hx => .inr (h2 x hx));refine ⟨_, { sg with A1 := A', c1 := c', q1 := q' }, rfl, ?_, rfl, ?_⟩
      · simpa [upd, n7] using hN
      · intro i u hi h;have i2 : i ≠ 2 := by rintro rfl; rw [hl] at hi; cases hi
        have i6 : i ≠ 6 := by rintro rfl; rw [n6] at hi; cases hi
        have i7 : i ≠ 7 := by rintro rfl; rw [n7] at hi; cases hi
        unfold CtsV at h ⊢;split at h <;> first | exact h | exact absurd rfl i2 | exact absurd rfl i6 | exact absurd rfl i7
    · refine sP_ fun sg ly act wx hl hd hW hF => ?_;have et1 := hF.old 1 (by kernel_rfl);simp [Act.eval] at et1;exact ⟨hW, .pointer (some ⟨sb, 1, none⟩), by go_simp, rfl⟩
    · refine sP_ fun sg ly act wx hl hd hW hF => ?_;simp [Region.binds] at hd;have et6 := hF.new 3 6 (by simp [hd]) rfl;simp [CtsV, Act.eval] at et6;have hO := hW;try dsimp only at hO
      have hh := hO.heap 0 rfl;have clq0 := (cOH hh 0).trans rfl;have clq1 := (cOH hh 1).trans rfl;have zz := hL_ hh;exact ⟨hW, .slice Au m cu, by go_simp, rfl⟩
    · refine sC_ fun sg ly act wx hl hd hW hF => ?_;simp [Region.binds] at hd;have et7 := hF.new 4 7 (by simp [hd]) rfl;simp [CtsV, Act.eval] at et7;have n6 := hF.notYet 5 6 hl (by kernel_rfl);have n7 := hF.notYet 5 7 hl (by kernel_rfl);have hO := hW;try dsimp only at hO
      simp only [hl, n7, Bool.false_eq_true, if_false, if_true] at hO;refine ⟨88, #[.slice Au m cu], by go_simp, ?_⟩;refine (HS.out.2 wx hO.bel).mono ?_;rintro e w2 ⟨A', c', q', rfl, h1, h2, h3⟩;have hN := hO.upd 3 rfl (Keep.of_below h3) (i' := .own 4 1 A' m c' ys q') (show OwnS _ _ _ _ _ _ _ _ from h1) (fun x hx => .inr (h2 x hx));refine ⟨_, { sg with A2 := A', c2 := c', q2 := q' }, rfl, ?_, rfl, ?_⟩
      · simpa [upd, n7] using hN
      · intro i u hi h;have i5 : i ≠ 5 := by rintro rfl; rw [hl] at hi; cases hi
        have i6 : i ≠ 6 := by rintro rfl; rw [n6] at hi; cases hi
        have i7 : i ≠ 7 := by rintro rfl; rw [n7] at hi; cases hi
        unfold CtsV at h ⊢;split at h <;> first | exact h | exact absurd rfl i5 | exact absurd rfl i6 | exact absurd rfl i7
    · refine sP_ fun sg ly act wx hl hd hW hF => ?_;simp [Region.binds] at hd;have et5 := hF.new 2 5 (by simp [hd]) rfl;simp [CtsV, Act.eval] at et5;have et8 := hF.new 5 8 (by simp [hd]) rfl;simp [CtsV, Act.eval] at et8;exact ⟨hW, .agg #[.slice sg.A1 n sg.c1, .slice sg.A2 m sg.c2], by go_simp, rfl⟩
    · refine sS_ rfl fun sg ly act wx hl hd hW hF => ?_;simp [Region.binds] at hd;have et2 := hF.old 2 (by kernel_rfl);simp [Act.eval] at et2;have et9 := hF.new 6 9 (by simp [hd]) rfl;simp [CtsV, Act.eval] at et9;have hO := hW;try dsimp only at hO
      simp only [hl, Bool.false_eq_true, if_false, if_true] at hO;have hh := hO.heap 1 rfl;have clq0 := (cOH hh 0).trans rfl;have flq0 := fOH hh 0;have clq1 := (cOH hh 1).trans rfl;have flq1 := fOH hh 1;have zz := hL_ hh;refine ⟨((wx.setCell ⟨rb, 0, none⟩ (.slice sg.A1 n sg.c1)).setCell ⟨rb, 1, none⟩ (.slice sg.A2 m sg.c2)), sg, .skip, by go_simp, .inl rfl, ?_, fun _ _ _ h => h⟩;have hN := hO.set 1 rfl (((Keep.refl _ _).setCell (.inl (by simp)) (.slice sg.A1 n sg.c1)).setCell (.inl (by simp)) (.slice sg.A2 m sg.c2)) (hS_ (hS_ (hh) 0 (.slice sg.A1 n sg.c1)) 1 (.slice sg.A2 m sg.c2));simpa [upd, hl] using hN
  intro sg af w5 hWW hF;obtain ⟨ff, hf, rfl⟩ := hF.lit;obtain ⟨A1, c1, q1, A2, c2, q2⟩ := sg;have O5 : Own w.heap.size w [It.blk sb (.cells #[.slice Ar n cr, .slice Au m cu] 42), It.blk rb (.cells (if (fun j => decide (j < List.length (_ : List Oper))) 7 = true then #[.slice (CtS.mk A1 c1 q1 A2 c2 q2).A1 n (CtS.mk A1 c1 q1 A2 c2 q2).c1, .slice (CtS.mk A1 c1 q1 A2 c2 q2).A2 m (CtS.mk A1 c1 q1 A2 c2 q2).c2] else #[.slice none 0 0, .slice none 0 0]) 42), if (fun j => decide (j < List.length (_ : List Oper))) 2 = true then It.own 3 1 (CtS.mk A1 c1 q1 A2 c2 q2).A1 n (CtS.mk A1 c1 q1 A2 c2 q2).c1 xs (CtS.mk A1 c1 q1 A2 c2 q2).q1 else noIt, if (fun j => decide (j < List.length (_ : List Oper))) 5 = true then It.own 4 1 (CtS.mk A1 c1 q1 A2 c2 q2).A2 m (CtS.mk A1 c1 q1 A2 c2 q2).c2 ys (CtS.mk A1 c1 q1 A2 c2 q2).q2 else noIt] w5 := hWW;simp only [List.length_cons, List.length_nil, Nat.reduceAdd, Nat.reduceLT, decide_true, if_true] at O5;have g0 := (cOH (O5.heap 1 rfl) 0).trans rfl;have g1 := (cOH (O5.heap 1 rfl) 1).trans rfl;have H5 := Lib.hid O5;clear hf hF hWW O5;simp only [List.filterMap, List.foldl, List.setIfInBounds_toArray, List.set_cons_succ, List.set_cons_zero];go_wp2_with fail
  obtain ⟨hn, hm, hxs, hys⟩ := HN.out;refine bodyPost_ret (v := .agg #[.slice A1 n c1, .slice A2 m c2]) (by simp [results, Try.results32, go_sem, g0, g1]) rfl ?_;have o1 : OwnS w5 3 1 A1 s.brash.length c1 (ints s.brash) q1 := by rw [← hn, ← hxs]; exact H5.out.owns 2 rfl
  have o2 : OwnS w5 4 1 A2 s.busy.length c2 (bools s.busy) q2 := by rw [← hm, ← hys]; exact H5.out.owns 3 rfl
  exact ⟨A1, c1, A2, c2, q1 ++ q2, by simp only [sttV]; rw [← hn, ← hm], sttH_new o1 o2, fun x hx => (List.mem_append.1 hx).elim (H5.out.ge 2 rfl (x := x)) (H5.out.ge 3 rfl (x := x)), H5.out.bel⟩
theorem sameState_any (A : Option Addr) (c : Nat) (B : Option Addr) (d : Nat) (A' : Option Addr) (c' : Nat) (B' : Option Addr) (d' : Nat) (s : Stt) (w : World) (h1 : SttB w.heap.size w A c B d s) (h2 : SttB w.heap.size w A' c' B' d' s) (hl : s.brash.length ≤ 1000 ∧ s.busy.length ≤ 1000) :
    Calls Try.prog 42 #[.agg (sttV A c B d s), .agg (sttV A' c' B' d' s)] w fun e w' => e = .returned (.bool true) ∧ Below w.heap.size w w' := by
  have k1 : ∀ wx, Below w.heap.size w wx → Calls Try.prog 37 #[.slice A s.brash.length c, .slice A' s.brash.length c'] wx fun e w' => e = .returned (.bool true) ∧ Below wx.heap.size wx w' := fun wx hb => by
    refine (sameInts_any A c s.brash A' c' wx ((h1.br.below hb).rd hb.size) ((h2.br.below hb).rd hb.size) (by omega)).mono ?_;rintro e w' ⟨rfl, h⟩;exact ⟨rfl, h⟩
  have k2 : ∀ wx, Below w.heap.size w wx → Calls Try.prog 100 #[.slice B s.busy.length d, .slice B' s.busy.length d'] wx fun e w' => e = .returned (.bool true) ∧ Below wx.heap.size wx w' := fun wx hb => by
    refine (sameTruths_any B d s.busy B' d' wx ((h1.bu.below hb).rd hb.size) ((h2.bu.below hb).rd hb.size) (by omega)).mono ?_;rintro e w' ⟨rfl, h⟩;exact ⟨rfl, h⟩
  obtain ⟨sb, hsb⟩ : ∃ b, b = w.heap.size := ⟨_, rfl⟩;obtain ⟨tb, htb⟩ : ∃ b, b = w.heap.size + 1 := ⟨_, rfl⟩;obtain ⟨W, hW⟩ : ∃ W, W = (w.alloc (.cells (sttV A c B d s) 42)).alloc (.cells (sttV A' c' B' d' s) 42) := ⟨_, rfl⟩;have O0 : Own w.heap.size w [.blk sb (.cells (sttV A c B d s) 42), .blk tb (.cells (sttV A' c' B' d' s) 42)] W := by
    have h := (((Own.start w).alloc (.cells (sttV A c B d s) 42)).alloc (.cells (sttV A' c' B' d' s) 42));rw [hW, hsb, htb];simpa using h
  have cellsAt : ∀ wx, Own w.heap.size w [.blk sb (.cells (sttV A c B d s) 42), .blk tb (.cells (sttV A' c' B' d' s) 42)] wx → wx.cell? ⟨sb, 0, none⟩ = some (.slice A s.brash.length c) ∧ wx.cell? ⟨sb, 1, none⟩ = some (.slice B s.busy.length d) ∧ wx.cell? ⟨tb, 0, none⟩ = some (.slice A' s.brash.length c') ∧ wx.cell? ⟨tb, 1, none⟩ = some (.slice B' s.busy.length d') ∧ sb < wx.heap.size ∧ tb < wx.heap.size := fun wx O => by
    have h0 := O.heap 0 rfl;have h1 := O.heap 1 rfl;exact ⟨(cOH h0 0).trans rfl, (cOH h0 1).trans rfl, (cOH h1 0).trans rfl, (cOH h1 1).trans rfl, hL_ h0, hL_ h1⟩
  obtain ⟨c0, c1, c2, c3, z0, z1⟩ := cellsAt W O0;have H := Lib.hid (And.intro O0 (And.intro cellsAt (And.intro k1 k2)));clear O0 cellsAt k1 k2 h1 h2
  go_enter Try.func42, Try.ntmps42
  go_upto_region 1 with fail
  rw [← hW, ← htb, ← hsb];clear hW htb hsb;go_wp2_with (first | (go_at_call 37; refine (H.out.2.2.1 W H.out.1.bel).mono ?_; rintro e w1 ⟨rfl, hb⟩; have O1 := Lib.hid (H.out.1.below hb); clear hb c0 c1 c2 c3 z0 z1; obtain ⟨c0, c1, c2, c3, z0, z1⟩ := H.out.2.1 w1 O1.out) | (go_at_call 100; refine (H.out.2.2.2 w1 O1.out.bel).mono ?_; rintro e w2 ⟨rfl, hb⟩; have O2 := Lib.hid (O1.out.below hb); clear hb))
  go_ret;exact ⟨rfl, O2.out.bel⟩
end Go.Proofs.Ythmldeningpjbaa


namespace Go.Proofs.Ythmldeningpjbaa
open Go Go.RowKit Sp Pt
theorem rin9_any (n lo hi : Int) (w : World) : Calls Try.prog 102 #[.int .i64 n, .int .i64 lo, .int .i64 hi] w fun e w' => e = .returned (.bool (within n lo hi)) ∧ w = w' := by
  by_cases h1 : lo ≤ n <;> by_cases h2 : n ≤ hi
  all_goals
    go_enter Try.func102, Try.ntmps102
    go_wp2_with fail
    go_ret;exact ⟨by simp [within, h1, h2], rfl⟩
end Go.Proofs.Ythmldeningpjbaa
