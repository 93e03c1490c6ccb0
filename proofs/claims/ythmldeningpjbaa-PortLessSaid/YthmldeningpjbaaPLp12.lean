import Derived.Test.YthmldeningpjbaaPLp11
import Derived.Laws.StructEq
import Derived.Test.YthmldeningpjbaaPLp6
set_option linter.unusedVariables false
set_option linter.unusedSimpArgs false
set_option maxRecDepth 100000
set_option maxHeartbeats 40000000
namespace Go.Proofs.Ythmldeningpjbaa
open Go Go.RowKit Sp Pt
theorem eqIntsP_any (A : Option Addr) (c : Nat) (l : List Int) (B : Option Addr) (d : Nat) (m : List Int) (w : World) (hr : Rd w 1 A l.length (ints l)) (hr2 : Rd w 1 B m.length (ints m)) (hm : l.length ≤ 9223372036854775807) (hm2 : m.length ≤ 9223372036854775807) :
    Calls Try.prog 28 #[.slice A l.length c, .slice B m.length d] w fun e w' => e = .returned (.bool (decide (l = m))) ∧ Below w.heap.size w w' := by
  by_cases hlen : l.length = m.length
  · have hle : ((l.length : Int) != (m.length : Int)) = false := by simp; omega
    have hmm : m.length = l.length := hlen.symm;rw [hmm] at hr2 ⊢;have HL := Lib.hid hmm;clear hlen hmm
    go_enter Try.func28, Try.ntmps28
    go_wp2_with fail
    go_loopg [13] (l.length) (fun g i wr => ∃ k : Nat, g + k = l.length ∧ i = .int .i64 k ∧ l.take k = m.take k ∧ Keep [] w wr)
    case atStart => exact ⟨0, rfl, rfl, by simp, Keep.refl _ _⟩
    case round =>
      obtain ⟨k, hk, rfl, hb, hK⟩ := hrel;have HB := Lib.hid (And.intro hb hK);by_cases hlt : k < l.length
      · obtain ⟨b, off, rfl, hbb, hc⟩ := hr.2 (by omega);obtain ⟨b2, off2, rfl, hbb2, hc2⟩ := hr2.2 (by omega);obtain ⟨x, hx⟩ : ∃ x, x = l.getD k 0 := ⟨_, rfl⟩;obtain ⟨y, hy⟩ : ∃ y, y = m.getD k 0 := ⟨_, rfl⟩;have c0 : wr.cell? ⟨b, off + k, none⟩ = some (.int .i64 x) := hK.cell (by rw [hx]; exact hc k _ (iG_ hlt)) (by simp);have c1 : wr.cell? ⟨b2, off2 + k, none⟩ = some (.int .i64 y) := hK.cell (by rw [hy]; exact hc2 k _ (iG_ (by have := HL.out; omega))) (by simp);have hkI : (0 : Int) ≤ (k : Int) ∧ (k : Int) < (l.length : Int) := by omega
        have hx' : x = l[k] := by rw [hx]; simp [hlt]
        have hy' : y = m[k]'(by have := HL.out; omega) := by rw [hy]; simp [show k < m.length from by have := HL.out; omega]
        have HX := Lib.hid (And.intro hx' hy');clear hx hy hx' hy' hb hK hc hc2 hr hr2;by_cases hxy : x = y
        · subst hxy;have hne : (x != x) = false := by simp
          go_upto_region 6 with fail
          go_quiet (fail);go_wp2_with fail
          go_roundg (gk - 1);case measure => omega
          case rel =>
            refine ⟨k + 1, by omega, by go_num, ?_, HB.out.2.drewN _⟩;rw [List.take_succ_eq_append_getElem hlt, List.take_succ_eq_append_getElem (by have := HL.out; omega : k < m.length), HB.out.1, ← HX.out.1, ← HX.out.2]
        · have hne : (x != y) = true := by simp [hxy]
          go_upto_region 6 with fail
          go_quiet (fail);go_wp2_with fail
          go_ret;refine ⟨?_, below_drewN (HB.out.2.below (Nat.le_refl _) (by simp)) _⟩;have : decide (l = m) = false := decide_eq_false fun e => by
            apply hxy;rw [HX.out.1, HX.out.2];simp [e]
          rw [this]; rfl
      · obtain rfl : k = l.length := by omega
        clear hK hb;go_wp2_with fail
        go_ret;refine ⟨?_, HB.out.2.below (Nat.le_refl _) (by simp)⟩;have h1 := HB.out.1;rw [List.take_length, show l.length = m.length from HL.out.symm, List.take_length] at h1;rw [decide_eq_true h1]; rfl
  · have hle : ((l.length : Int) != (m.length : Int)) = true := by simp; omega
    have HL := Lib.hid hlen;clear hlen
    go_enter Try.func28, Try.ntmps28
    go_wp2_with fail
    go_ret;refine ⟨?_, Below.refl _ _⟩;rw [decide_eq_false (fun e => HL.out (by rw [e]))]; rfl
theorem plc_neq (x y : Plc) (w : World) : (binOp .neq 109 (.agg #[.int .i64 x.berth, .int .i64 x.start]) (.agg #[.int .i64 y.berth, .int .i64 y.start])).run Try.prog w = .ok (.bool (!decide (x = y))) w := by
  have u3 := Try.underlying3;have a3 := Try.isAgg3;have z3 := Try.sizeOf3;have hS : Try.prog.underlying 109 = some (.struct (Try.prog.fieldsOf 109)) := by kernel_rfl
  have hp : Try.prog.stoodInHeld 109 = false := by kernel_rfl
  rw [run_neq_struct, show (10000 : Nat) = 9999 + 1 from rfl, run_equalIn_agg w 9999 109 _ _ hS hp];simp only [Program.fieldsOf, Try.underlying109];go_simp;obtain ⟨a, b⟩ := x;obtain ⟨a', b'⟩ := y;by_cases h1 : a = a' <;> by_cases h2 : b = b' <;> simp [h1, h2]
theorem eqPlcs_any (A : Option Addr) (c : Nat) (l : List Plc) (B : Option Addr) (d : Nat) (m : List Plc) (w : World) (hr : Rd w 2 A l.length (plcs l)) (hr2 : Rd w 2 B m.length (plcs m)) (hm : l.length ≤ 9223372036854775807) (hm2 : m.length ≤ 9223372036854775807) :
    Calls Try.prog 49 #[.slice A l.length c, .slice B m.length d] w fun e w' => e = .returned (.bool (decide (l = m))) ∧ Below w.heap.size w w' := by
  by_cases hlen : l.length = m.length
  · have hle : ((l.length : Int) != (m.length : Int)) = false := by simp; omega
    have hmm : m.length = l.length := hlen.symm;rw [hmm] at hr2 ⊢;have HL := Lib.hid hmm;clear hlen hmm
    go_enter Try.func49, Try.ntmps49
    go_wp2_with fail
    go_loopg [13] (l.length) (fun g i wr => ∃ k : Nat, g + k = l.length ∧ i = .int .i64 k ∧ l.take k = m.take k ∧ Keep [] w wr)
    case atStart => exact ⟨0, rfl, rfl, by simp, Keep.refl _ _⟩
    case round =>
      obtain ⟨k, hk, rfl, hb, hK⟩ := hrel;have HB := Lib.hid (And.intro hb hK);by_cases hlt : k < l.length
      · obtain ⟨b, off, rfl, hbb, hc⟩ := hr.2 (by omega);obtain ⟨b2, off2, rfl, hbb2, hc2⟩ := hr2.2 (by omega);have hlm : k < m.length := by have := HL.out; omega
        obtain ⟨x, hx'⟩ : ∃ x, x = l[k] := ⟨_, rfl⟩;obtain ⟨y, hy'⟩ : ∃ y, y = m[k] := ⟨_, rfl⟩;obtain ⟨s0, s1⟩ := plcs_get hlt;obtain ⟨t0, t1⟩ := plcs_get hlm;rw [← hx'] at s0 s1;rw [← hy'] at t0 t1;have bk : ∀ o u, w.cell? ⟨b, o, none⟩ = some u → wr.cell? ⟨b, o, none⟩ = some u := fun o u h => hK.cell h (by simp);have bk2 : ∀ o u, w.cell? ⟨b2, o, none⟩ = some u → wr.cell? ⟨b2, o, none⟩ = some u := fun o u h => hK.cell h (by simp);have c0 := bk (off + k*2) _ (hc _ _ s0);have c1 := bk (off + k*2 + 1) _ (hc _ _ s1);have d0 := bk2 (off2 + k*2) _ (hc2 _ _ t0);have d1 := bk2 (off2 + k*2 + 1) _ (hc2 _ _ t1);clear bk bk2 s0 t0 s1 t1;have hkI : (0 : Int) ≤ (k : Int) ∧ (k : Int) < (l.length : Int) := by omega
        have HX := Lib.hid (And.intro hx' hy');clear hx' hy' hb hK hc hc2 hr hr2;by_cases hxy : x = y
        · subst hxy;have hne : ∀ w, (binOp .neq 109 (.agg #[.int .i64 x.berth, .int .i64 x.start]) (.agg #[.int .i64 x.berth, .int .i64 x.start])).run Try.prog w = .ok (.bool false) w := fun w => by rw [plc_neq]; simp
          go_upto_region 6 with fail
          go_quiet (fail);go_wp2_with fail
          go_roundg (gk - 1);case measure => omega
          case rel =>
            refine ⟨k + 1, by omega, by go_num, ?_, HB.out.2.drewN _⟩;rw [List.take_succ_eq_append_getElem hlt, List.take_succ_eq_append_getElem (by have := HL.out; omega : k < m.length), HB.out.1, ← HX.out.1, ← HX.out.2]
        · have hne : ∀ w, (binOp .neq 109 (.agg #[.int .i64 x.berth, .int .i64 x.start]) (.agg #[.int .i64 y.berth, .int .i64 y.start])).run Try.prog w = .ok (.bool true) w := fun w => by rw [plc_neq]; simp [hxy]
          go_upto_region 6 with fail
          go_quiet (fail);go_wp2_with fail
          go_ret;refine ⟨?_, below_drewN (HB.out.2.below (Nat.le_refl _) (by simp)) _⟩;have : decide (l = m) = false := decide_eq_false fun e => by
            apply hxy;rw [HX.out.1, HX.out.2];simp [e]
          rw [this]; rfl
      · obtain rfl : k = l.length := by omega
        clear hK hb;go_wp2_with fail
        go_ret;refine ⟨?_, HB.out.2.below (Nat.le_refl _) (by simp)⟩;have h1 := HB.out.1;rw [List.take_length, show l.length = m.length from HL.out.symm, List.take_length] at h1;rw [decide_eq_true h1]; rfl
  · have hle : ((l.length : Int) != (m.length : Int)) = true := by simp; omega
    have HL := Lib.hid hlen;clear hlen
    go_enter Try.func49, Try.ntmps49
    go_wp2_with fail
    go_ret;refine ⟨?_, Below.refl _ _⟩;rw [decide_eq_false (fun e => HL.out (by rw [e]))]; rfl
theorem eqIntsP_same (A B : Option Addr) (c d n : Nat) (l : List Int) (w : World) (hn : n = l.length) (hm : n ≤ 1000) (h1 : Rd w 1 A n (ints l)) (h2 : Rd w 1 B n (ints l)) :
    Calls Try.prog 28 #[.slice A n c, .slice B n d] w fun e w' => e = .returned (.bool true) ∧ Below w.heap.size w w' := by
  subst hn;have := eqIntsP_any A c l B d l w h1 h2 (by omega) (by omega)
  rwa [decide_eq_true rfl] at this
theorem eqPlcs_same (A B : Option Addr) (c d n : Nat) (l : List Plc) (w : World) (hn : n = l.length) (hm : n ≤ 1000) (h1 : Rd w 2 A n (plcs l)) (h2 : Rd w 2 B n (plcs l)) :
    Calls Try.prog 49 #[.slice A n c, .slice B n d] w fun e w' => e = .returned (.bool true) ∧ Below w.heap.size w w' := by
  subst hn;have := eqPlcs_any A c l B d l w h1 h2 (by omega) (by omega)
  rwa [decide_eq_true rfl] at this
def exPrt : Prt := ⟨[⟨10, 1, 25⟩], [⟨900, [0]⟩], 3⟩
def exPln : Pln := ⟨24, [⟨2, 0, false, 800, 60, 1⟩, ⟨20, 0, true, 800, 60, 1⟩], [⟨19, 0, 2⟩]⟩
def ExV (W0 : World) (b0 b1 b2 b4 b5 b6 b7 b8 : Nat) : Nat → Value → Prop
  | 0, v => v = .agg #[.slice (some ⟨b2, 0, none⟩) 1 1, .slice (some ⟨b4, 0, none⟩) 1 1, .int .i64 3]
  | 1, v => v = .agg #[.int .i64 24, .slice (some ⟨b6, 0, none⟩) 2 2, .slice (some ⟨b7, 0, none⟩) 1 1]
  | _, _ => True
def ExW (W0 : World) (b0 b1 b2 b4 b5 b6 b7 b8 : Nat) (l : Nat → Bool) (w : World) : Prop := Keep [b0, b1] W0 w ∧ w.heap[b0]? = some (.cells (if l 2 then #[.slice (some ⟨b2, 0, none⟩) 1 1, .slice (some ⟨b4, 0, none⟩) 1 1, .int .i64 3] else #[.slice none 0 0, .slice none 0 0, .int .i64 0]) 26 (0, 0)) ∧ w.heap[b1]? = some (.cells (if l 3 then #[.int .i64 24, .slice (some ⟨b6, 0, none⟩) 2 2, .slice (some ⟨b7, 0, none⟩) 1 1] else #[.int .i64 0, .slice none 0 0, .slice none 0 0]) 31 (0, 0))
theorem ex_results {F : Func} (hF : F.results = #[.cell 0 26, .cell 1 31]) {W : World} {b0 b1 : Nat} {u0 u1 u2 v0 v1 v2 : Value} (h : W.heap[b0]? = some (.cells #[u0, u1, u2] 26 (0, 0))) (h' : W.heap[b1]? = some (.cells #[v0, v1, v2] 31 (0, 0))) (tmps : Array Value) (hr : tmps.getD 0 undef = .pointer (some ⟨b0, 0, none⟩)) (hs : tmps.getD 1 undef = .pointer (some ⟨b1, 0, none⟩))
    (n0 : ∃ A n c, u0 = .slice A n c) (n1 : ∃ A n c, u1 = .slice A n c) (n2 : ∃ x, u2 = .int .i64 x) (m0 : ∃ x, v0 = .int .i64 x) (m1 : ∃ A n c, v1 = .slice A n c) (m2 : ∃ A n c, v2 = .slice A n c) :
    (results F tmps).run Try.prog W = .ok (.tuple #[.agg #[u0, u1, u2], .agg #[v0, v1, v2]]) W := by
  have g0 : tmps[0]?.getD undef = .pointer (some ⟨b0, 0, none⟩) := by simpa using hr
  have g1 : tmps[1]?.getD undef = .pointer (some ⟨b1, 0, none⟩) := by simpa using hs
  obtain ⟨_, _, _, rfl⟩ := n0;obtain ⟨_, _, _, rfl⟩ := n1;obtain ⟨_, rfl⟩ := n2;obtain ⟨_, rfl⟩ := m0;obtain ⟨_, _, _, rfl⟩ := m1;obtain ⟨_, _, _, rfl⟩ := m2;have c0 := (cOH h 0).trans rfl;have c1 := (cOH h 1).trans rfl;have c2 := (cOH h 2).trans rfl;have d0 := (cOH h' 0).trans rfl;have d1 := (cOH h' 1).trans rfl;have d2 := (cOH h' 2).trans rfl;simp [results, hF, g0, g1, asAddr, go_sem, c0, c1, c2, d0, d1, d2]
def ExPost (w : World) (e : Ending) (w' : World) : Prop :=
  ∃ b2 b3 b4 b6 b7, e = .returned (.tuple #[.agg (prtV (some ⟨b2, 0, none⟩) 1 (some ⟨b4, 0, none⟩) 1 exPrt), .agg (plnV (some ⟨b6, 0, none⟩) 2 (some ⟨b7, 0, none⟩) 1 exPln)]) ∧
    PrtB w'.heap.size w' (some ⟨b2, 0, none⟩) 1 (some ⟨b4, 0, none⟩) 1 exPrt ∧ PlnB w'.heap.size w' (some ⟨b6, 0, none⟩) 2 (some ⟨b7, 0, none⟩) 1 exPln ∧ w'.heap[b4]? = some (.cells #[.int .i64 900, .slice (some ⟨b3, 0, none⟩) 1 1] 53 (0, 0)) ∧ PathB w'.heap.size w' (some ⟨b3, 0, none⟩) 1 [0] ∧ (b2 < b3 ∧ b3 < b4 ∧ w.heap.size ≤ b2) ∧ Below w.heap.size w w'
theorem ExampleP_any (w : World) : Calls Try.prog 69 #[] w (ExPost w) := by
  go_enter Try.func69, Try.ntmps69
  go_upto_region 3 with fail
  obtain ⟨b0, e0⟩ : ∃ b, b = w.heap.size := ⟨_, rfl⟩;obtain ⟨b1, e1⟩ : ∃ b, b = w.heap.size + 1 := ⟨_, rfl⟩;obtain ⟨b2, e2⟩ : ∃ b, b = w.heap.size + 1 + 1 := ⟨_, rfl⟩;obtain ⟨b3, e3⟩ : ∃ b, b = w.heap.size + 1 + 1 + 1 := ⟨_, rfl⟩;obtain ⟨b4, e4⟩ : ∃ b, b = w.heap.size + 1 + 1 + 1 + 1 := ⟨_, rfl⟩;obtain ⟨b5, e5⟩ : ∃ b, b = w.heap.size + 1 + 1 + 1 + 1 + 1 := ⟨_, rfl⟩;obtain ⟨b6, e6⟩ : ∃ b, b = w.heap.size + 1 + 1 + 1 + 1 + 1 + 1 := ⟨_, rfl⟩;obtain ⟨b7, e7⟩ : ∃ b, b = w.heap.size + 1 + 1 + 1 + 1 + 1 + 1 + 1 := ⟨_, rfl⟩;obtain ⟨b8, e8⟩ : ∃ b, b = w.heap.size + 1 + 1 + 1 + 1 + 1 + 1 + 1 + 1 := ⟨_, rfl⟩;rw [← e8];rw [← e7];rw [← e6];rw [← e5];rw [← e4];rw [← e3];rw [← e2];rw [← e1];rw [← e0];obtain ⟨W1, x1⟩ : ∃ W, W = w.alloc (.cells #[.slice none 0 0, .slice none 0 0, .int .i64 0] 26) := ⟨_, rfl⟩;rw [← x1];obtain ⟨W2, x2⟩ : ∃ W, W = W1.alloc (.cells #[.int .i64 0, .slice none 0 0, .slice none 0 0] 31) := ⟨_, rfl⟩;rw [← x2];obtain ⟨W3, x3⟩ : ∃ W, W = W2.alloc (.cells #[.int .i64 10, .int .i64 1, .int .i64 25] 144) := ⟨_, rfl⟩;rw [← x3];obtain ⟨W4, x4⟩ : ∃ W, W = W3.alloc (.cells #[.int .i64 0] 3) := ⟨_, rfl⟩;rw [← x4];obtain ⟨W5, x5⟩ : ∃ W, W = W4.alloc (.cells #[.int .i64 900, .slice (some ⟨b3, 0, none⟩) 1 1] 53) := ⟨_, rfl⟩;rw [← x5];obtain ⟨W6, x6⟩ : ∃ W, W = W5.alloc (.cells #[.slice (some ⟨b2, 0, none⟩) 1 1, .slice (some ⟨b4, 0, none⟩) 1 1, .int .i64 3] 26) := ⟨_, rfl⟩;rw [← x6];obtain ⟨W7, x7⟩ : ∃ W, W = W6.alloc (.cells #[.int .i64 2, .int .i64 0, .bool false, .int .i64 800, .int .i64 60, .int .i64 1, .int .i64 20, .int .i64 0, .bool true, .int .i64 800, .int .i64 60, .int .i64 1] 55) := ⟨_, rfl⟩;rw [← x7];obtain ⟨W8, x8⟩ : ∃ W, W = W7.alloc (.cells #[.int .i64 19, .int .i64 0, .int .i64 2] 126) := ⟨_, rfl⟩;rw [← x8];obtain ⟨W9, x9⟩ : ∃ W, W = W8.alloc (.cells #[.int .i64 24, .slice (some ⟨b6, 0, none⟩) 2 2, .slice (some ⟨b7, 0, none⟩) 1 1] 31) := ⟨_, rfl⟩;rw [← x9];have s1 : W1.heap.size = w.heap.size + 1 := by rw [x1, World.size_alloc]
  have h0 : W1.heap[b0]? = some (.cells #[.slice none 0 0, .slice none 0 0, .int .i64 0] 26 (0, 0)) := by rw [x1, show b0 = w.heap.size from by omega]; exact heap_alloc_new _ _
  replace h0 := hA_ h0 (.cells #[.int .i64 0, .slice none 0 0, .slice none 0 0] 31)
  rw [← x2] at h0
  replace h0 := hA_ h0 (.cells #[.int .i64 10, .int .i64 1, .int .i64 25] 144)
  rw [← x3] at h0
  replace h0 := hA_ h0 (.cells #[.int .i64 0] 3)
  rw [← x4] at h0
  replace h0 := hA_ h0 (.cells #[.int .i64 900, .slice (some ⟨b3, 0, none⟩) 1 1] 53)
  rw [← x5] at h0
  replace h0 := hA_ h0 (.cells #[.slice (some ⟨b2, 0, none⟩) 1 1, .slice (some ⟨b4, 0, none⟩) 1 1, .int .i64 3] 26)
  rw [← x6] at h0
  replace h0 := hA_ h0 (.cells #[.int .i64 2, .int .i64 0, .bool false, .int .i64 800, .int .i64 60, .int .i64 1, .int .i64 20, .int .i64 0, .bool true, .int .i64 800, .int .i64 60, .int .i64 1] 55)
  rw [← x7] at h0
  replace h0 := hA_ h0 (.cells #[.int .i64 19, .int .i64 0, .int .i64 2] 126)
  rw [← x8] at h0
  replace h0 := hA_ h0 (.cells #[.int .i64 24, .slice (some ⟨b6, 0, none⟩) 2 2, .slice (some ⟨b7, 0, none⟩) 1 1] 31)
  rw [← x9] at h0;have s2 : W2.heap.size = W1.heap.size + 1 := by rw [x2, World.size_alloc]
  have h1 : W2.heap[b1]? = some (.cells #[.int .i64 0, .slice none 0 0, .slice none 0 0] 31 (0, 0)) := by rw [x2, show b1 = W1.heap.size from by omega]; exact heap_alloc_new _ _
  replace h1 := hA_ h1 (.cells #[.int .i64 10, .int .i64 1, .int .i64 25] 144)
  rw [← x3] at h1
  replace h1 := hA_ h1 (.cells #[.int .i64 0] 3)
  rw [← x4] at h1
  replace h1 := hA_ h1 (.cells #[.int .i64 900, .slice (some ⟨b3, 0, none⟩) 1 1] 53)
  rw [← x5] at h1
  replace h1 := hA_ h1 (.cells #[.slice (some ⟨b2, 0, none⟩) 1 1, .slice (some ⟨b4, 0, none⟩) 1 1, .int .i64 3] 26)
  rw [← x6] at h1
  replace h1 := hA_ h1 (.cells #[.int .i64 2, .int .i64 0, .bool false, .int .i64 800, .int .i64 60, .int .i64 1, .int .i64 20, .int .i64 0, .bool true, .int .i64 800, .int .i64 60, .int .i64 1] 55)
  rw [← x7] at h1
  replace h1 := hA_ h1 (.cells #[.int .i64 19, .int .i64 0, .int .i64 2] 126)
  rw [← x8] at h1
  replace h1 := hA_ h1 (.cells #[.int .i64 24, .slice (some ⟨b6, 0, none⟩) 2 2, .slice (some ⟨b7, 0, none⟩) 1 1] 31)
  rw [← x9] at h1;have s3 : W3.heap.size = W2.heap.size + 1 := by rw [x3, World.size_alloc]
  have h2 : W3.heap[b2]? = some (.cells #[.int .i64 10, .int .i64 1, .int .i64 25] 144 (0, 0)) := by rw [x3, show b2 = W2.heap.size from by omega]; exact heap_alloc_new _ _
  replace h2 := hA_ h2 (.cells #[.int .i64 0] 3)
  rw [← x4] at h2
  replace h2 := hA_ h2 (.cells #[.int .i64 900, .slice (some ⟨b3, 0, none⟩) 1 1] 53)
  rw [← x5] at h2
  replace h2 := hA_ h2 (.cells #[.slice (some ⟨b2, 0, none⟩) 1 1, .slice (some ⟨b4, 0, none⟩) 1 1, .int .i64 3] 26)
  rw [← x6] at h2
  replace h2 := hA_ h2 (.cells #[.int .i64 2, .int .i64 0, .bool false, .int .i64 800, .int .i64 60, .int .i64 1, .int .i64 20, .int .i64 0, .bool true, .int .i64 800, .int .i64 60, .int .i64 1] 55)
  rw [← x7] at h2
  replace h2 := hA_ h2 (.cells #[.int .i64 19, .int .i64 0, .int .i64 2] 126)
  rw [← x8] at h2
  replace h2 := hA_ h2 (.cells #[.int .i64 24, .slice (some ⟨b6, 0, none⟩) 2 2, .slice (some ⟨b7, 0, none⟩) 1 1] 31)
  rw [← x9] at h2;have s4 : W4.heap.size = W3.heap.size + 1 := by rw [x4, World.size_alloc]
  have h3 : W4.heap[b3]? = some (.cells #[.int .i64 0] 3 (0, 0)) := by rw [x4, show b3 = W3.heap.size from by omega]; exact heap_alloc_new _ _
  replace h3 := hA_ h3 (.cells #[.int .i64 900, .slice (some ⟨b3, 0, none⟩) 1 1] 53)
  rw [← x5] at h3
  replace h3 := hA_ h3 (.cells #[.slice (some ⟨b2, 0, none⟩) 1 1, .slice (some ⟨b4, 0, none⟩) 1 1, .int .i64 3] 26)
  rw [← x6] at h3
  replace h3 := hA_ h3 (.cells #[.int .i64 2, .int .i64 0, .bool false, .int .i64 800, .int .i64 60, .int .i64 1, .int .i64 20, .int .i64 0, .bool true, .int .i64 800, .int .i64 60, .int .i64 1] 55)
  rw [← x7] at h3
  replace h3 := hA_ h3 (.cells #[.int .i64 19, .int .i64 0, .int .i64 2] 126)
  rw [← x8] at h3
  replace h3 := hA_ h3 (.cells #[.int .i64 24, .slice (some ⟨b6, 0, none⟩) 2 2, .slice (some ⟨b7, 0, none⟩) 1 1] 31)
  rw [← x9] at h3;have s5 : W5.heap.size = W4.heap.size + 1 := by rw [x5, World.size_alloc]
  have h4 : W5.heap[b4]? = some (.cells #[.int .i64 900, .slice (some ⟨b3, 0, none⟩) 1 1] 53 (0, 0)) := by rw [x5, show b4 = W4.heap.size from by omega]; exact heap_alloc_new _ _
  replace h4 := hA_ h4 (.cells #[.slice (some ⟨b2, 0, none⟩) 1 1, .slice (some ⟨b4, 0, none⟩) 1 1, .int .i64 3] 26)
  rw [← x6] at h4
  replace h4 := hA_ h4 (.cells #[.int .i64 2, .int .i64 0, .bool false, .int .i64 800, .int .i64 60, .int .i64 1, .int .i64 20, .int .i64 0, .bool true, .int .i64 800, .int .i64 60, .int .i64 1] 55)
  rw [← x7] at h4
  replace h4 := hA_ h4 (.cells #[.int .i64 19, .int .i64 0, .int .i64 2] 126)
  rw [← x8] at h4
  replace h4 := hA_ h4 (.cells #[.int .i64 24, .slice (some ⟨b6, 0, none⟩) 2 2, .slice (some ⟨b7, 0, none⟩) 1 1] 31)
  rw [← x9] at h4;have s6 : W6.heap.size = W5.heap.size + 1 := by rw [x6, World.size_alloc]
  have h5 : W6.heap[b5]? = some (.cells #[.slice (some ⟨b2, 0, none⟩) 1 1, .slice (some ⟨b4, 0, none⟩) 1 1, .int .i64 3] 26 (0, 0)) := by rw [x6, show b5 = W5.heap.size from by omega]; exact heap_alloc_new _ _
  replace h5 := hA_ h5 (.cells #[.int .i64 2, .int .i64 0, .bool false, .int .i64 800, .int .i64 60, .int .i64 1, .int .i64 20, .int .i64 0, .bool true, .int .i64 800, .int .i64 60, .int .i64 1] 55)
  rw [← x7] at h5
  replace h5 := hA_ h5 (.cells #[.int .i64 19, .int .i64 0, .int .i64 2] 126)
  rw [← x8] at h5
  replace h5 := hA_ h5 (.cells #[.int .i64 24, .slice (some ⟨b6, 0, none⟩) 2 2, .slice (some ⟨b7, 0, none⟩) 1 1] 31)
  rw [← x9] at h5;have s7 : W7.heap.size = W6.heap.size + 1 := by rw [x7, World.size_alloc]
  have h6 : W7.heap[b6]? = some (.cells #[.int .i64 2, .int .i64 0, .bool false, .int .i64 800, .int .i64 60, .int .i64 1, .int .i64 20, .int .i64 0, .bool true, .int .i64 800, .int .i64 60, .int .i64 1] 55 (0, 0)) := by rw [x7, show b6 = W6.heap.size from by omega]; exact heap_alloc_new _ _
  replace h6 := hA_ h6 (.cells #[.int .i64 19, .int .i64 0, .int .i64 2] 126)
  rw [← x8] at h6
  replace h6 := hA_ h6 (.cells #[.int .i64 24, .slice (some ⟨b6, 0, none⟩) 2 2, .slice (some ⟨b7, 0, none⟩) 1 1] 31)
  rw [← x9] at h6;have s8 : W8.heap.size = W7.heap.size + 1 := by rw [x8, World.size_alloc]
  have h7 : W8.heap[b7]? = some (.cells #[.int .i64 19, .int .i64 0, .int .i64 2] 126 (0, 0)) := by rw [x8, show b7 = W7.heap.size from by omega]; exact heap_alloc_new _ _
  replace h7 := hA_ h7 (.cells #[.int .i64 24, .slice (some ⟨b6, 0, none⟩) 2 2, .slice (some ⟨b7, 0, none⟩) 1 1] 31)
  rw [← x9] at h7;have s9 : W9.heap.size = W8.heap.size + 1 := by rw [x9, World.size_alloc]
  have h8 : W9.heap[b8]? = some (.cells #[.int .i64 24, .slice (some ⟨b6, 0, none⟩) 2 2, .slice (some ⟨b7, 0, none⟩) 1 1] 31 (0, 0)) := by rw [x9, show b8 = W8.heap.size from by omega]; exact heap_alloc_new _ _
  have bb : Below w.heap.size w W9 := by
    rw [x9, x8, x7, x6, x5, x4, x3, x2, x1];exact ((((((((((Below.refl _ _).alloc (Nat.le_refl _) _).alloc (by simp <;> omega) _).alloc (by simp <;> omega) _).alloc (by simp <;> omega) _).alloc (by simp <;> omega) _).alloc (by simp <;> omega) _).alloc (by simp <;> omega) _).alloc (by simp <;> omega) _).alloc (by simp <;> omega) _)
  have hord : b0 < b1 ∧ b1 < b2 ∧ b2 < b3 ∧ b3 < b4 ∧ b4 < b5 ∧ b5 < b6 ∧ b6 < b7 ∧ b7 < b8 ∧ w.heap.size = b0 := by omega
  have qp0 : W9.cell? ⟨b5, 0, none⟩ = some (.slice (some ⟨b2, 0, none⟩) 1 1) := (cOH h5 0).trans rfl;have qp1 : W9.cell? ⟨b5, 1, none⟩ = some (.slice (some ⟨b4, 0, none⟩) 1 1) := (cOH h5 1).trans rfl;have qp2 : W9.cell? ⟨b5, 2, none⟩ = some (.int .i64 3) := (cOH h5 2).trans rfl;have ql0 : W9.cell? ⟨b8, 0, none⟩ = some (.int .i64 24) := (cOH h8 0).trans rfl;have ql1 : W9.cell? ⟨b8, 1, none⟩ = some (.slice (some ⟨b6, 0, none⟩) 2 2) := (cOH h8 1).trans rfl;have ql2 : W9.cell? ⟨b8, 2, none⟩ = some (.slice (some ⟨b7, 0, none⟩) 1 1) := (cOH h8 2).trans rfl;have z5 := hL_ h5;have z8 := hL_ h8;have H := Lib.hid (And.intro h2 (And.intro h3 (And.intro h4 (And.intro h6 (And.intro h7 bb)))));clear e0 e1 e2 e3 e4 e5 e6 e7 e8 x1 x2 x3 x4 x5 x6 x7 x8 x9 s1 s2 s3 s4 s5 s6 s7 s8 s9 h2 h3 h4 h5 h6 h7 h8 bb;refine wRS (σ := Unit) (by kernel_rfl) (by kernel_rfl) (fun _ jx vx _ => ExV W9 b0 b1 b2 b4 b5 b6 b7 b8 jx vx) (fun _ ly wx => ExW W9 b0 b1 b2 b4 b5 b6 b7 b8 ly wx) () ?_ ?_ ?_
  · exact ⟨(Keep.refl _ _).drew, h0, h1⟩
  · simp only [AllFrom, Nat.zero_add, Nat.reduceAdd];refine ⟨?_, ?_, ?_, ?_, trivial⟩
    · refine sP_ fun sg ly a wr hl hd hW hF => ?_;have et2 := hF.old 2 (by kernel_rfl);simp [Act.eval] at et2;have c0 := hW.1.cell qp0 (by simp; omega);have c1 := hW.1.cell qp1 (by simp; omega);have c2 := hW.1.cell qp2 (by simp; omega);exact ⟨by simpa [ExW, upd] using hW, .agg #[.slice (some ⟨b2, 0, none⟩) 1 1, .slice (some ⟨b4, 0, none⟩) 1 1, .int .i64 3], by go_simp, rfl⟩
    · refine sP_ fun sg ly a wr hl hd hW hF => ?_;have et3 := hF.old 3 (by kernel_rfl);simp [Act.eval] at et3;have c0 := hW.1.cell ql0 (by simp; omega);have c1 := hW.1.cell ql1 (by simp; omega);have c2 := hW.1.cell ql2 (by simp; omega);exact ⟨by simpa [ExW, upd] using hW, .agg #[.int .i64 24, .slice (some ⟨b6, 0, none⟩) 2 2, .slice (some ⟨b7, 0, none⟩) 1 1], by go_simp, rfl⟩
    · refine sS_ rfl fun sg ly a wr hl hd hW hF => ?_;simp [Region.binds] at hd;have et0 := hF.old 0 (by kernel_rfl);simp [Act.eval] at et0;have et16 := hF.new 0 16 (by simp [hd]) rfl;simp [ExV, Act.eval] at et16;obtain ⟨h0, h1, h2⟩ := hW;rw [if_neg (by simp [hl])] at h1;have c0 := (cOH h1 0).trans rfl;have c1 := (cOH h1 1).trans rfl;have c2 := (cOH h1 2).trans rfl;have f0 := fOH h1 0;have f1 := fOH h1 1;have f2 := fOH h1 2;have z0 := hL_ h1;refine ⟨((wr.setCell ⟨b0, 0, none⟩ (.slice (some ⟨b2, 0, none⟩) 1 1)).setCell ⟨b0, 1, none⟩ (.slice (some ⟨b4, 0, none⟩) 1 1)).setCell ⟨b0, 2, none⟩ (.int .i64 3), (), .skip, by go_simp, .inl rfl, ⟨((h0.setCell (.inl (by simp)) _).setCell (.inl (by simp)) _).setCell (.inl (by simp)) _, by rw [if_pos (by simp [upd])]; exact st3_heap' h1 _ _ _, hSN (hSN (hSN h2 (by simp only; omega) _) (by simp only; omega) _) (by simp only; omega) _⟩, fun _ _ _ h => h⟩
    · refine sS_ rfl fun sg ly a wr hl hd hW hF => ?_;simp [Region.binds] at hd;have et1 := hF.old 1 (by kernel_rfl);simp [Act.eval] at et1;have et17 := hF.new 1 17 (by simp [hd]) rfl;simp [ExV, Act.eval] at et17;obtain ⟨h0, h1, h2⟩ := hW;rw [if_neg (by simp [hl])] at h2;have c0 := (cOH h2 0).trans rfl;have c1 := (cOH h2 1).trans rfl;have c2 := (cOH h2 2).trans rfl;have f0 := fOH h2 0;have f1 := fOH h2 1;have f2 := fOH h2 2;have z0 := hL_ h2;refine ⟨((wr.setCell ⟨b1, 0, none⟩ (.int .i64 24)).setCell ⟨b1, 1, none⟩ (.slice (some ⟨b6, 0, none⟩) 2 2)).setCell ⟨b1, 2, none⟩ (.slice (some ⟨b7, 0, none⟩) 1 1), (), .skip, by go_simp, .inl rfl, ⟨((h0.setCell (.inl (by simp)) _).setCell (.inl (by simp)) _).setCell (.inl (by simp)) _, hSN (hSN (hSN h1 (by simp only; omega) _) (by simp only; omega) _) (by simp only; omega) _, by rw [if_pos (by simp [upd])]; exact st3_heap' h2 _ _ _⟩, fun _ _ _ h => h⟩
  intro _ a w3 hWW hF;obtain ⟨f3, hf3, rfl⟩ := hF.lit;obtain ⟨k3, r0, r1⟩ : Keep [b0, b1] W9 w3 ∧ w3.heap[b0]? = some (.cells #[.slice (some ⟨b2, 0, none⟩) 1 1, .slice (some ⟨b4, 0, none⟩) 1 1, .int .i64 3] 26 (0, 0)) ∧ w3.heap[b1]? = some (.cells #[.int .i64 24, .slice (some ⟨b6, 0, none⟩) 2 2, .slice (some ⟨b7, 0, none⟩) 1 1] 31 (0, 0)) := by simpa [ExW] using hWW
  clear hf3 hF hWW;simp only [List.filterMap, List.foldl, List.setIfInBounds_toArray, List.set_cons_succ, List.set_cons_zero];have HK := Lib.hid (And.intro k3 (And.intro r0 r1));clear k3 r0 r1;go_wp2_with fail
  refine bodyPost_ret (ex_results rfl HK.out.2.1 HK.out.2.2 _ rfl rfl ⟨_, _, _, rfl⟩ ⟨_, _, _, rfl⟩ ⟨_, rfl⟩ ⟨_, rfl⟩ ⟨_, _, _, rfl⟩ ⟨_, _, _, rfl⟩) rfl ?_;obtain ⟨h2, h3, h4, h6, h7, bb⟩ := H.out;have K : ∀ {x : Nat} {o : Obj}, W9.heap[x]? = some o → x ≠ b0 → x ≠ b1 → w3.heap[x]? = some o := fun hx n0 n1 => (HK.out.1.block _ (hL_ hx) (by simp; exact ⟨n0, n1⟩)).trans hx;have g2 := K h2 (by omega) (by omega);have g3 := K h3 (by omega) (by omega);have g4 := K h4 (by omega) (by omega);have g6 := K h6 (by omega) (by omega);have g7 := K h7 (by omega) (by omega);have hpath : PathB w3.heap.size w3 (some ⟨b3, 0, none⟩) 1 [0] := ⟨⟨rfl, fun _ => ⟨b3, 0, rfl, hL_ g3, fun j u hu => (cOH g3 _).trans (by simpa [ints] using hu)⟩⟩, by simp, by decide, by simp⟩;refine ⟨b2, b3, b4, b6, b7, rfl, ⟨⟨rfl, fun _ => ⟨b2, 0, rfl, hL_ g2, fun j u hu => (cOH g2 _).trans (by simpa [exPrt, chcs, chc] using hu)⟩⟩, ?_, ⟨by decide, by decide, by simp⟩, ⟨by decide, by decide, by simp⟩⟩, ⟨⟨rfl, fun _ => ⟨b6, 0, rfl, hL_ g6, fun j u hu => (cOH g6 _).trans (by simpa [exPln, cacs, cac] using hu)⟩⟩, ⟨rfl, fun _ => ⟨b7, 0, rfl, hL_ g7, fun j u hu => (cOH g7 _).trans (by simpa [exPln, swcs, swc] using hu)⟩⟩, ⟨by decide, by decide, by simp⟩, ⟨by decide, by decide, by simp⟩⟩, g4, hpath, ⟨by omega, by omega, by omega⟩, bb.trans (HK.out.1.below bb.size (by simp; omega))⟩;intro k hk;obtain rfl : k = 0 := by simp [exPrt] at hk; omega
  exact ⟨b4, 0, some ⟨b3, 0, none⟩, 1, rfl, hL_ g4, (cOH g4 0).trans rfl, (cOH g4 1).trans rfl, ⟨rfl, fun _ => ⟨b3, 0, rfl, hL_ g3, fun j u hu => (cOH g3 _).trans (by simpa [exPrt, ints] using hu)⟩⟩, by simp [exPrt], by decide, by simp⟩
theorem brR_set {B : Int} {b : List Int} {k x : Int} (h : brR B b) (hk : 0 ≤ k) (hx : -B ≤ x ∧ x ≤ B) : brR B (setI b k x) := getI_setI_bd hk h hx
theorem swp1_bd {B : Int} {p : Prt} {h : Int} {b : List Int} {s : Swp} (hb : brR B b) (hs : 0 ≤ s.channel ∧ 0 ≤ s.tugs) (hc : 0 ≤ (ch p s.channel).clear) : brR B (swp1 p h b s) := by
  unfold swp1;split
  · refine brR_set hb hs.1 ?_;have := hb s.channel;have := Int.mul_nonneg hs.2 hc;omega
  · exact hb
theorem swpN_bd {B : Int} {p : Prt} {h : Int} {l : List Swp} (hs : ∀ s ∈ l, 0 ≤ s.channel ∧ s.channel < p.chs.length ∧ 0 ≤ s.tugs) (hc : ∀ x ∈ p.chs, 0 ≤ x.clear) : ∀ {b : List Int}, brR B b → brR B (swpN p h l b) := by
  induction l with
  | nil => intro b hb; exact hb
  | cons s l ih =>
    intro b hb;have h1 := hs s (by simp);exact ih (fun x hx => hs x (by simp [hx])) (swp1_bd hb ⟨h1.1, h1.2.2⟩ (hc _ (ch_mem h1.1 h1.2.1)))
theorem sweep_any {c : WC} {W w : World} {s : Stt} {h : Int} (E : WcE c W (brV c) (buV c)) (N : WcN c) (S : WkS c W w s) (v : Val c.p c.l) (hbr : brR 100000000000 s.brash) :
    Calls Try.prog 123 #[.pointer (some ⟨c.wb, 0, none⟩), .int .i64 h] w fun e w' => e = .returned (.tuple #[]) ∧ WkS c W w' ⟨swpN c.p h c.l.swps s.brash, s.busy⟩ := by
  obtain ⟨L, hL⟩ : ∃ L, L = c.l.swps.length := ⟨_, rfl⟩;have Er := E.at N S;obtain ⟨_, q1, _, _, _, _, _, _, q2, z1, _, z2⟩ := Er.cells;rw [← hL] at q2;have hL2 : L ≤ 200 := by have := v.nx; omega
  have H := Lib.hid (And.intro E (And.intro N (And.intro S (And.intro v (And.intro hbr hL)))));clear E N S Er hbr hL
  go_enter Try.func123, Try.ntmps123
  go_wp2_with fail
  go_loopw [14] (fun i wr => ∃ k : Nat, k ≤ L ∧ i = .int .i64 k ∧ WkS c W wr ⟨swpN c.p h (c.l.swps.take k) s.brash, s.busy⟩) (fun i _ => L - (intOf i).toNat)
  case atStart => exact ⟨0, Nat.zero_le _, rfl, H.out.2.2.1⟩
  case round =>
    obtain ⟨k, hk, rfl, hS⟩ := hrel;by_cases hlt : k < L
    · have hkl : k < c.l.swps.length := by have := H.out.2.2.2.2.2; omega
      have hm : c.l.swps.getD k default ∈ c.l.swps := by rw [List.getD_eq_getElem?_getD, List.getElem?_eq_getElem hkl]; exact List.getElem_mem hkl
      have hs := H.out.2.2.2.1.sw _ hm;have hb := swpN_bd (p := c.p) (h := h) (l := c.l.swps.take k) (fun x hx => by have := H.out.2.2.2.1.sw x (List.mem_of_mem_take hx); omega) (fun x hx => by have := H.out.2.2.2.1.chf x hx; omega) H.out.2.2.2.2.1;refine swR H.out.1 H.out.2.1 hS H.out.2.2.2.2.2.symm hlt (by omega) (by omega) (fun x hx => by have := H.out.2.2.2.1.chf x hx; omega) (by have := H.out.2.2.2.1.nc; omega) hb ?_;intro _ _ _ _ _ _ _ _ _ _ _ _ _ _ _ _ _ _ _ _ _ _ _ _ _ _ _ _ _ _ _ _ _ _ _ _ _ _ _ _ _ w' hr;refine ⟨?_, by simp [intOf]; omega⟩
      repeat apply Exists.intro
      refine ⟨?_, rfl⟩;refine ⟨k + 1, by omega, by go_num, ?_⟩;have e0 : (c.l.swps.take (k + 1)) = c.l.swps.take k ++ [c.l.swps.getD k default] := by rw [List.take_succ_eq_append_getElem hkl, List.getD_eq_getElem?_getD, List.getElem?_eq_getElem hkl]; rfl
      rw [e0, swpN, List.foldl_append];exact hr
    · obtain rfl : k = L := by omega
      have hf : WkS c W wr ⟨swpN c.p h c.l.swps s.brash, s.busy⟩ := by rw [H.out.2.2.2.2.2, List.take_length] at hS; exact hS
      have HF := Lib.hid hf;clear hf hS;go_wp2_with fail
      go_end0
      exact ⟨rfl, HF.out⟩
def FrV (W0 : World) (wb xb gb n c1 k : Nat) (x fr : Int) : Nat → Value → Prop
  | 0, v => v = .pointer (some ⟨wb, 0, none⟩)
  | 1, v => v = .pointer (some ⟨wb, 0, none⟩)
  | 2, v => v = .pointer (some ⟨wb, 2, none⟩)
  | 3, v => v = .slice (some ⟨gb, 0, none⟩) n c1
  | 4, v => v = .int .i64 k
  | 5, v => v = .pointer (some ⟨gb, k, none⟩)
  | 6, v => v = .int .i64 x
  | 7, v => v = .pointer (some ⟨xb, 1, none⟩)
  | 8, v => v = .int .i64 fr
  | 9, v => v = .int .i64 (x + fr)
  | 10, v => v = .pointer (some ⟨gb, k, none⟩)
  | _, _ => True
def FrW (W0 : World) (wb xb gb n c1 k : Nat) (x fr : Int) (l : Nat → Bool) (w : World) : Prop := if l 11 then w = (W0.setCell ⟨gb, k, none⟩ (.int .i64 (x + fr))).drew else w = W0.drew
theorem frR {c : WC} {W0 wr : World} {k : Nat} {s : Stt} (E : WcE c W0 (brV c) (buV c)) (N : WcN c) (S : WkS c W0 wr s) (hk : k < c.p.chs.length) (hfr : ∀ x ∈ c.p.chs, 0 ≤ x.frost ∧ x.frost ≤ 20) (hcn : c.p.chs.length ≤ 1000) (hbr : brR 100000000000 s.brash) {s1 s2 s3 s4 s5 s6 s7 s8 s9 s13 s14 s15 s16 s17 s18 s19 s20 s21 s22 s23 s24 s25 s26 s27 s28 : Value} {Q0 : Exit → Act → World → Prop} {Inv : Act → World → Prop}
    (hInv : ∀ (t2 t3 t13 t14 t15 t16 t17 t18 t19 t20 t21 t22 t23 t24 t25 t26 t27 t28 : Value)  (w' : World), WkS c W0 w' ⟨setI s.brash k (getI s.brash k + (ch c.p k).frost), s.busy⟩ → Inv ⟨#[.pointer (some ⟨c.wb, 0, none⟩), s1, t2, t3, s4, s5, s6, s7, s8, s9, .slice c.Ac c.p.chs.length c.cc, .int .i64 c.p.chs.length, .int .i64 ((k + 1 : Nat) : Int), t13, t14, t15, t16, t17, t18, t19, t20, t21, t22, t23, t24, t25, t26, t27, t28], []⟩ w') :
    Code.wp Try.prog (loopBody Try.f125 0) (Exit.then Inv Q0) ⟨#[.pointer (some ⟨c.wb, 0, none⟩), s1, s2, s3, s4, s5, s6, s7, s8, s9, .slice c.Ac c.p.chs.length c.cc, .int .i64 c.p.chs.length, .int .i64 k, s13, s14, s15, s16, s17, s18, s19, s20, s21, s22, s23, s24, s25, s26, s27, s28], []⟩ wr := by
  conv => arg 2; whnf
  have Er := E.at N S;obtain ⟨bc, oc, eAc, hbc, h0, h1, h2⟩ := chAt Er.PB hk;have zc := World.block_lt_of_cell? _ _ h0;have cbd := hfr _ (ch_mem (p := c.p) (i := (k : Int)) (by omega) (by omega));generalize ch c.p (k : Int) = y at *;obtain ⟨gr, fr, cr⟩ := y;simp only at h0 h1 h2 cbd;obtain ⟨W2, hW2⟩ : ∃ W2, W2 = wr.alloc (.cells #[.int .i64 gr, .int .i64 fr, .int .i64 cr] 144) := ⟨_, rfl⟩;obtain ⟨xb, hxb⟩ : ∃ xb, xb = wr.heap.size := ⟨_, rfl⟩;have hxh : W2.heap[xb]? = some (.cells #[.int .i64 gr, .int .i64 fr, .int .i64 cr] 144 (0, 0)) := by rw [hW2, hxb]; exact heap_alloc_new _ _
  have S2 : WkS c W0 W2 s := by rw [hW2]; exact S.alloc _
  have E2 := E.at N S2;obtain ⟨_, _, q2, _, _, _, _, _, _, z1, _, _⟩ := E2.cells;have q4 := S2.brAt hk;have q6 := (S2.br.one (A := none)).2.2 k;have z3 := (S2.br.one (A := none)).1;have x1 : W2.cell? ⟨xb, 1, none⟩ = some (.int .i64 fr) := (cOH hxh 1).trans rfl;have zx := hL_ hxh;obtain ⟨x, hx⟩ : ∃ x, x = getI s.brash k := ⟨_, rfl⟩;have hxr := hbr k;rw [← hx] at q4 hxr;rw [eAc] at hInv ⊢;have HI := Lib.hid hInv;have HS := Lib.hid (And.intro S2 hx);have k1 : (0 : Int) ≤ (k : Int) := by omega
  have k2 : (k : Int) < (c.p.chs.length : Int) := by omega
  clear hInv S S2 E Er E2 hxh hx hbr hfr eAc hbc;go_upto_region 3 with fail
  rw [← hW2, ← hxb];clear hW2 hxb h0 h1 h2 zc;refine wRS (σ := Unit) (by kernel_rfl) (by kernel_rfl) (fun _ jx vx _ => FrV W2 c.wb xb c.gb c.p.chs.length c.c1 k x fr jx vx) (fun _ ly wx => FrW W2 c.wb xb c.gb c.p.chs.length c.c1 k x fr ly wx) () ?_ ?_ ?_
  · exact (by unfold FrW; rw [if_neg (by simp)])
  · simp only [AllFrom, Nat.zero_add, Nat.reduceAdd];refine ⟨?_, ?_, ?_, ?_, ?_, ?_, ?_, ?_, ?_, ?_, ?_, ?_, trivial⟩
    · refine sP_ fun sg ly a wr hl hd hW hF => ?_;have et0 := hF.old 0 (by kernel_rfl);simp [Act.eval] at et0;exact ⟨by simpa [FrW, upd] using hW, .pointer (some ⟨c.wb, 0, none⟩), by go_simp, rfl⟩
    · refine sP_ fun sg ly a wr hl hd hW hF => ?_;simp [Region.binds] at hd;have et17 := hF.new 0 17 (by simp [hd]) rfl;simp [FrV, Act.eval] at et17;exact ⟨by simpa [FrW, upd] using hW, .pointer (some ⟨c.wb, 0, none⟩), by go_simp, rfl⟩
    · refine sP_ fun sg ly a wr hl hd hW hF => ?_;simp [Region.binds] at hd;have et18 := hF.new 1 18 (by simp [hd]) rfl;simp [FrV, Act.eval] at et18;exact ⟨by simpa [FrW, upd] using hW, .pointer (some ⟨c.wb, 2, none⟩), by go_simp, rfl⟩
    · refine sP_ fun sg ly a wr hl hd hW hF => ?_;simp [Region.binds] at hd;have et19 := hF.new 2 19 (by simp [hd]) rfl;simp [FrV, Act.eval] at et19;have nL_10 := hF.notYet 3 10 hl (by kernel_rfl);have nL := hF.notYet 10 11 nL_10 (by kernel_rfl);have hW' := hW;unfold FrW at hW';rw [if_neg (by simp [nL])] at hW';subst hW';exact ⟨by unfold FrW; rw [if_neg (by simp [upd, nL])], _, by go_simp, rfl⟩
    · refine sP_ fun sg ly a wr hl hd hW hF => ?_;have et2 := hF.old 2 (by kernel_rfl);simp [Act.eval] at et2;exact ⟨by simpa [FrW, upd] using hW, .int .i64 k, by go_simp, rfl⟩
    · refine sP_ fun sg ly a wr hl hd hW hF => ?_;simp [Region.binds] at hd;have et20 := hF.new 3 20 (by simp [hd]) rfl;simp [FrV, Act.eval] at et20;have et21 := hF.new 4 21 (by simp [hd]) rfl;simp [FrV, Act.eval] at et21;exact ⟨by simpa [FrW, upd] using hW, .pointer (some ⟨c.gb, k, none⟩), by go_simp, rfl⟩
    · refine sP_ fun sg ly a wr hl hd hW hF => ?_;simp [Region.binds] at hd;have et22 := hF.new 5 22 (by simp [hd]) rfl;simp [FrV, Act.eval] at et22;have nL_9 := hF.notYet 6 9 hl (by kernel_rfl);have nL := hF.notYet 9 11 nL_9 (by kernel_rfl);have hW' := hW;unfold FrW at hW';rw [if_neg (by simp [nL])] at hW';subst hW';exact ⟨by unfold FrW; rw [if_neg (by simp [upd, nL])], _, by go_simp, rfl⟩
    · refine sP_ fun sg ly a wr hl hd hW hF => ?_;have et3 := hF.old 3 (by kernel_rfl);simp [Act.eval] at et3;exact ⟨by simpa [FrW, upd] using hW, .pointer (some ⟨xb, 1, none⟩), by go_simp, rfl⟩
    · refine sP_ fun sg ly a wr hl hd hW hF => ?_;simp [Region.binds] at hd;have et24 := hF.new 7 24 (by simp [hd]) rfl;simp [FrV, Act.eval] at et24;have nL_9 := hF.notYet 8 9 hl (by kernel_rfl);have nL := hF.notYet 9 11 nL_9 (by kernel_rfl);have hW' := hW;unfold FrW at hW';rw [if_neg (by simp [nL])] at hW';subst hW';exact ⟨by unfold FrW; rw [if_neg (by simp [upd, nL])], _, by go_simp, rfl⟩
    · refine sP_ fun sg ly a wr hl hd hW hF => ?_;simp [Region.binds] at hd;have et23 := hF.new 6 23 (by simp [hd]) rfl;simp [FrV, Act.eval] at et23;have et25 := hF.new 8 25 (by simp [hd]) rfl;simp [FrV, Act.eval] at et25;have ew := IntWalk.i64_in (x + fr) (by omega);exact ⟨by simpa [FrW, upd] using hW, .int .i64 (x + fr), by go_simp, rfl⟩
    · refine sP_ fun sg ly a wr hl hd hW hF => ?_;simp [Region.binds] at hd;have et20 := hF.new 3 20 (by simp [hd]) rfl;simp [FrV, Act.eval] at et20;have et21 := hF.new 4 21 (by simp [hd]) rfl;simp [FrV, Act.eval] at et21;exact ⟨by simpa [FrW, upd] using hW, .pointer (some ⟨c.gb, k, none⟩), by go_simp, rfl⟩
    · refine sS_ rfl fun sg ly a wr hl hd hW hF => ?_;simp [Region.binds] at hd;have et27 := hF.new 10 27 (by simp [hd]) rfl;simp [FrV, Act.eval] at et27;have et26 := hF.new 9 26 (by simp [hd]) rfl;simp [FrV, Act.eval] at et26;have hW' := hW;unfold FrW at hW';rw [if_neg (by simp [hl])] at hW';subst hW';refine ⟨(W2.setCell ⟨c.gb, k, none⟩ (.int .i64 (x + fr))).drew, (), .skip, by go_simp, .inl rfl, by unfold FrW; rw [if_pos (by simp [upd])], fun _ _ _ h => h⟩
  intro _ a w3 hWW hF;obtain ⟨f3, hf3, rfl⟩ := hF.lit;have hw3 : w3 = (W2.setCell ⟨c.gb, k, none⟩ (.int .i64 (x + fr))).drew := by
    have h5 := hWW;unfold FrW at h5
    rwa [if_pos (by simp)] at h5
  clear hf3 hF hWW;simp only [List.filterMap, List.foldl, List.setIfInBounds_toArray, List.set_cons_succ, List.set_cons_zero];have S3 := HS.out.1.setBr N (x + fr) hk;rw [← hw3] at S3;have H3 := Lib.hid S3;clear hw3 S3;go_wp2_with fail
  refine HI.out _ _ _ _ _ _ _ _ _ _ _ _ _ _ _ _ _ _ _ ?_;rw [← HS.out.2];exact H3.out
theorem frostN_bd {B : Int} {p : Prt} (hf : ∀ x ∈ p.chs, 0 ≤ x.frost ∧ x.frost ≤ 20) {b : List Int} (hb : brR B b) : ∀ {k : Nat}, k ≤ p.chs.length → brR (B + 20 * k) (frostN p b k)
  | 0, _ => by simpa [frostN] using hb
  | k + 1, hk => by
    have ih := frostN_bd hf hb (k := k) (by omega);have h1 := hf _ (ch_mem (p := p) (i := (k : Int)) (by omega) (by omega));rw [frostN];refine brR_set (B := B + 20 * ((k + 1 : Nat) : Int)) (fun c => by have := ih c; omega) (by omega) ?_;have := ih k;omega
theorem frost_any {c : WC} {W w : World} {s : Stt} (E : WcE c W (brV c) (buV c)) (N : WcN c) (S : WkS c W w s) (v : Val c.p c.l) (hbr : brR 10000000000 s.brash) :
    Calls Try.prog 125 #[.pointer (some ⟨c.wb, 0, none⟩)] w fun e w' => e = .returned (.tuple #[]) ∧ WkS c W w' ⟨frostL c.p s.brash, s.busy⟩ := by
  have Er := E.at N S;obtain ⟨q0, _, _, _, q2, _, _, _, _, z1, z2, _⟩ := Er.cells;have hn := v.nc;have H := Lib.hid (And.intro E (And.intro N (And.intro S (And.intro v hbr))));clear E N S Er hbr
  go_enter Try.func125, Try.ntmps125
  go_wp2_with fail
  go_loopw [12] (fun i wr => ∃ k : Nat, k ≤ c.p.chs.length ∧ i = .int .i64 k ∧ WkS c W wr ⟨frostN c.p s.brash k, s.busy⟩) (fun i _ => c.p.chs.length - (intOf i).toNat)
  case atStart => exact ⟨0, Nat.zero_le _, rfl, H.out.2.2.1⟩
  case round =>
    obtain ⟨k, hk, rfl, hS⟩ := hrel;by_cases hlt : k < c.p.chs.length
    · have hf : ∀ x ∈ c.p.chs, 0 ≤ x.frost ∧ x.frost ≤ 20 := fun x hx => by have := H.out.2.2.2.1.chf x hx; omega
      have hb := frostN_bd hf H.out.2.2.2.2 hk;refine frR H.out.1 H.out.2.1 hS hlt hf (by omega) (fun j => by have := hb j; simp only; omega) ?_;intro _ _ _ _ _ _ _ _ _ _ _ _ _ _ _ _ _ _ w' hr;refine ⟨?_, by simp [intOf]; omega⟩
      repeat apply Exists.intro
      refine ⟨?_, rfl⟩;exact ⟨k + 1, by omega, by go_num, hr⟩
    · obtain rfl : k = c.p.chs.length := by omega
      have HF := Lib.hid hS;clear hS;go_wp2_with fail
      go_end0
      exact ⟨rfl, HF.out⟩
end Go.Proofs.Ythmldeningpjbaa
