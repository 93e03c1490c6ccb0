/- slices.Equal at ints and at places (printed by wip/tools/ptequal.py) -/
import Derived.Test.YthmldeningpjbaaPFp24
import Derived.Laws.StructEq
import Derived.Test.YthmldeningpjbaaPFp15
import Derived.Test.YthmldeningpjbaaPFp17
import Derived.Test.YthmldeningpjbaaPFp1
set_option linter.unusedVariables false
namespace Go.Proofs.Ythmldeningpjbaa
open Go Go.RowKit Sp Pt
set_option linter.unusedVariables false
set_option linter.unusedSimpArgs false

set_option maxHeartbeats 1000000 in
theorem eqIntsP_any (A : Option Addr) (c : Nat) (l : List Int) (B : Option Addr) (d : Nat) (m : List Int) (w : World) (hr : Rd w 1 A l.length (ints l)) (hr2 : Rd w 1 B m.length (ints m)) (hm : l.length ≤ 9223372036854775807) (hm2 : m.length ≤ 9223372036854775807) :
    Calls Try.prog 28 #[.slice A l.length c, .slice B m.length d] w fun e w' => e = .returned (.bool (decide (l = m))) ∧ Below w.heap.size w w' := by
  by_cases hlen : l.length = m.length
  · have hle : ((l.length : Int) != (m.length : Int)) = false := by simp; omega
    have hmm : m.length = l.length := hlen.symm
    rw [hmm] at hr2 ⊢
    have HL := Lib.hid hmm
    clear hlen hmm
    go_enter Try.func28, Try.ntmps28
    go_wp2_with fail
    go_loopg [13] (l.length) (fun g i wr => ∃ k : Nat, g + k = l.length ∧ i = .int .i64 k ∧ l.take k = m.take k ∧ Keep [] w wr)
    case atStart => exact ⟨0, rfl, rfl, by simp, Keep.refl _ _⟩
    case round =>
      obtain ⟨k, hk, rfl, hb, hK⟩ := hrel
      have HB := Lib.hid (And.intro hb hK)
      by_cases hlt : k < l.length
      · obtain ⟨b, off, rfl, hbb, hc⟩ := hr.2 (by omega)
        obtain ⟨b2, off2, rfl, hbb2, hc2⟩ := hr2.2 (by omega)
        obtain ⟨x, hx⟩ : ∃ x, x = l.getD k 0 := ⟨_, rfl⟩
        obtain ⟨y, hy⟩ : ∃ y, y = m.getD k 0 := ⟨_, rfl⟩
        have c0 : wr.cell? ⟨b, off + k, none⟩ = some (.int .i64 x) := hK.cell (by rw [hx]; exact hc k _ (ints_get hlt)) (by simp)
        have c1 : wr.cell? ⟨b2, off2 + k, none⟩ = some (.int .i64 y) := hK.cell (by rw [hy]; exact hc2 k _ (ints_get (by have := HL.out; omega))) (by simp)
        have hkI : (0 : Int) ≤ (k : Int) ∧ (k : Int) < (l.length : Int) := by omega
        have hx' : x = l[k] := by rw [hx]; simp [hlt]
        have hy' : y = m[k]'(by have := HL.out; omega) := by rw [hy]; simp [show k < m.length from by have := HL.out; omega]
        have HX := Lib.hid (And.intro hx' hy')
        clear hx hy hx' hy' hb hK hc hc2 hr hr2
        by_cases hxy : x = y
        · subst hxy
          have hne : (x != x) = false := by simp
          go_upto_region 6 with fail
          go_quiet (fail)
          go_wp2_with fail
          go_roundg (gk - 1)
          case measure => omega
          case rel =>
            refine ⟨k + 1, by omega, by go_num, ?_, HB.out.2.drewN _⟩
            rw [List.take_succ_eq_append_getElem hlt, List.take_succ_eq_append_getElem (by have := HL.out; omega : k < m.length), HB.out.1, ← HX.out.1, ← HX.out.2]
        · have hne : (x != y) = true := by simp [hxy]
          go_upto_region 6 with fail
          go_quiet (fail)
          go_wp2_with fail
          go_ret
          refine ⟨?_, below_drewN (HB.out.2.below (Nat.le_refl _) (by simp)) _⟩
          have : decide (l = m) = false := decide_eq_false fun e => by
            apply hxy
            rw [HX.out.1, HX.out.2]
            simp [e]
          rw [this]; rfl
      · obtain rfl : k = l.length := by omega
        clear hK hb
        go_wp2_with fail
        go_ret
        refine ⟨?_, HB.out.2.below (Nat.le_refl _) (by simp)⟩
        have h1 := HB.out.1
        rw [List.take_length, show l.length = m.length from HL.out.symm, List.take_length] at h1
        rw [decide_eq_true h1]; rfl
  · have hle : ((l.length : Int) != (m.length : Int)) = true := by simp; omega
    have HL := Lib.hid hlen
    clear hlen
    go_enter Try.func28, Try.ntmps28
    go_wp2_with fail
    go_ret
    refine ⟨?_, Below.refl _ _⟩
    rw [decide_eq_false (fun e => HL.out (by rw [e]))]; rfl
theorem plc_neq (x y : Plc) (w : World) : (binOp .neq 109 (.agg #[.int .i64 x.berth, .int .i64 x.start]) (.agg #[.int .i64 y.berth, .int .i64 y.start])).run Try.prog w = .ok (.bool (!decide (x = y))) w := by
  have u3 := Try.underlying3
  have a3 := Try.isAgg3
  have z3 := Try.sizeOf3
  have hS : Try.prog.underlying 109 = some (.struct (Try.prog.fieldsOf 109)) := by kernel_rfl
  have hp : Try.prog.stoodInHeld 109 = false := by kernel_rfl
  rw [run_neq_struct, show (10000 : Nat) = 9999 + 1 from rfl, run_equalIn_agg w 9999 109 _ _ hS hp]
  simp only [Program.fieldsOf, Try.underlying109]
  go_simp
  obtain ⟨a, b⟩ := x
  obtain ⟨a', b'⟩ := y
  by_cases h1 : a = a' <;> by_cases h2 : b = b' <;> simp [h1, h2]

set_option maxHeartbeats 1000000 in
theorem eqPlcs_any (A : Option Addr) (c : Nat) (l : List Plc) (B : Option Addr) (d : Nat) (m : List Plc) (w : World) (hr : Rd w 2 A l.length (plcs l)) (hr2 : Rd w 2 B m.length (plcs m)) (hm : l.length ≤ 9223372036854775807) (hm2 : m.length ≤ 9223372036854775807) :
    Calls Try.prog 49 #[.slice A l.length c, .slice B m.length d] w fun e w' => e = .returned (.bool (decide (l = m))) ∧ Below w.heap.size w w' := by
  by_cases hlen : l.length = m.length
  · have hle : ((l.length : Int) != (m.length : Int)) = false := by simp; omega
    have hmm : m.length = l.length := hlen.symm
    rw [hmm] at hr2 ⊢
    have HL := Lib.hid hmm
    clear hlen hmm
    go_enter Try.func49, Try.ntmps49
    go_wp2_with fail
    go_loopg [13] (l.length) (fun g i wr => ∃ k : Nat, g + k = l.length ∧ i = .int .i64 k ∧ l.take k = m.take k ∧ Keep [] w wr)
    case atStart => exact ⟨0, rfl, rfl, by simp, Keep.refl _ _⟩
    case round =>
      obtain ⟨k, hk, rfl, hb, hK⟩ := hrel
      have HB := Lib.hid (And.intro hb hK)
      by_cases hlt : k < l.length
      · obtain ⟨b, off, rfl, hbb, hc⟩ := hr.2 (by omega)
        obtain ⟨b2, off2, rfl, hbb2, hc2⟩ := hr2.2 (by omega)
        have hlm : k < m.length := by have := HL.out; omega
        obtain ⟨x, hx'⟩ : ∃ x, x = l[k] := ⟨_, rfl⟩
        obtain ⟨y, hy'⟩ : ∃ y, y = m[k] := ⟨_, rfl⟩
        obtain ⟨s0, s1⟩ := plcs_get hlt
        obtain ⟨t0, t1⟩ := plcs_get hlm
        rw [← hx'] at s0 s1
        rw [← hy'] at t0 t1
        have bk : ∀ o u, w.cell? ⟨b, o, none⟩ = some u → wr.cell? ⟨b, o, none⟩ = some u := fun o u h => hK.cell h (by simp)
        have bk2 : ∀ o u, w.cell? ⟨b2, o, none⟩ = some u → wr.cell? ⟨b2, o, none⟩ = some u := fun o u h => hK.cell h (by simp)
        have c0 := bk (off + k*2) _ (hc _ _ s0)
        have c1 := bk (off + k*2 + 1) _ (hc _ _ s1)
        have d0 := bk2 (off2 + k*2) _ (hc2 _ _ t0)
        have d1 := bk2 (off2 + k*2 + 1) _ (hc2 _ _ t1)
        clear bk bk2 s0 t0 s1 t1
        have hkI : (0 : Int) ≤ (k : Int) ∧ (k : Int) < (l.length : Int) := by omega
        have HX := Lib.hid (And.intro hx' hy')
        clear hx' hy' hb hK hc hc2 hr hr2
        by_cases hxy : x = y
        · subst hxy
          have hne : ∀ w, (binOp .neq 109 (.agg #[.int .i64 x.berth, .int .i64 x.start]) (.agg #[.int .i64 x.berth, .int .i64 x.start])).run Try.prog w = .ok (.bool false) w := fun w => by rw [plc_neq]; simp
          go_upto_region 6 with fail
          go_quiet (fail)
          go_wp2_with fail
          go_roundg (gk - 1)
          case measure => omega
          case rel =>
            refine ⟨k + 1, by omega, by go_num, ?_, HB.out.2.drewN _⟩
            rw [List.take_succ_eq_append_getElem hlt, List.take_succ_eq_append_getElem (by have := HL.out; omega : k < m.length), HB.out.1, ← HX.out.1, ← HX.out.2]
        · have hne : ∀ w, (binOp .neq 109 (.agg #[.int .i64 x.berth, .int .i64 x.start]) (.agg #[.int .i64 y.berth, .int .i64 y.start])).run Try.prog w = .ok (.bool true) w := fun w => by rw [plc_neq]; simp [hxy]
          go_upto_region 6 with fail
          go_quiet (fail)
          go_wp2_with fail
          go_ret
          refine ⟨?_, below_drewN (HB.out.2.below (Nat.le_refl _) (by simp)) _⟩
          have : decide (l = m) = false := decide_eq_false fun e => by
            apply hxy
            rw [HX.out.1, HX.out.2]
            simp [e]
          rw [this]; rfl
      · obtain rfl : k = l.length := by omega
        clear hK hb
        go_wp2_with fail
        go_ret
        refine ⟨?_, HB.out.2.below (Nat.le_refl _) (by simp)⟩
        have h1 := HB.out.1
        rw [List.take_length, show l.length = m.length from HL.out.symm, List.take_length] at h1
        rw [decide_eq_true h1]; rfl
  · have hle : ((l.length : Int) != (m.length : Int)) = true := by simp; omega
    have HL := Lib.hid hlen
    clear hlen
    go_enter Try.func49, Try.ntmps49
    go_wp2_with fail
    go_ret
    refine ⟨?_, Below.refl _ _⟩
    rw [decide_eq_false (fun e => HL.out (by rw [e]))]; rfl
theorem eqIntsP_same (A B : Option Addr) (c d n : Nat) (l : List Int) (w : World) (hn : n = l.length) (hm : n ≤ 1000) (h1 : Rd w 1 A n (ints l)) (h2 : Rd w 1 B n (ints l)) :
    Calls Try.prog 28 #[.slice A n c, .slice B n d] w fun e w' => e = .returned (.bool true) ∧ Below w.heap.size w w' := by
  subst hn
  have := eqIntsP_any A c l B d l w h1 h2 (by omega) (by omega)
  rwa [decide_eq_true rfl] at this
theorem eqPlcs_same (A B : Option Addr) (c d n : Nat) (l : List Plc) (w : World) (hn : n = l.length) (hm : n ≤ 1000) (h1 : Rd w 2 A n (plcs l)) (h2 : Rd w 2 B n (plcs l)) :
    Calls Try.prog 49 #[.slice A n c, .slice B n d] w fun e w' => e = .returned (.bool true) ∧ Below w.heap.size w w' := by
  subst hn
  have := eqPlcs_any A c l B d l w h1 h2 (by omega) (by omega)
  rwa [decide_eq_true rfl] at this
end Go.Proofs.Ythmldeningpjbaa
/- slices.Equal at ints: it only reads -/
namespace Go.Proofs.Ythmldeningpjbaa
open Go Go.RowKit Sp Pt
set_option linter.unusedVariables false
set_option linter.unusedSimpArgs false

set_option maxHeartbeats 1000000 in
theorem eqIntsQ_any (A : Option Addr) (c : Nat) (l : List Int) (B : Option Addr) (d : Nat) (m : List Int) (w : World) (hr : Rd w 1 A l.length (ints l)) (hr2 : Rd w 1 B m.length (ints m)) (hm : l.length ≤ 9223372036854775807) (hm2 : m.length ≤ 9223372036854775807) :
    Calls Try.prog 28 #[.slice A l.length c, .slice B m.length d] w fun e w' => e = .returned (.bool (decide (l = m))) ∧ ∃ n, w' = w.drewN n := by
  by_cases hlen : l.length = m.length
  · have hle : ((l.length : Int) != (m.length : Int)) = false := by simp; omega
    have hmm : m.length = l.length := hlen.symm
    rw [hmm] at hr2 ⊢
    have HL := Lib.hid hmm
    clear hlen hmm
    go_enter Try.func28, Try.ntmps28
    go_wp2_with fail
    go_loopg [13] (l.length) (fun g i wr => ∃ k : Nat, g + k = l.length ∧ i = .int .i64 k ∧ l.take k = m.take k ∧ ∃ n, wr = w.drewN n)
    case atStart => exact ⟨0, rfl, rfl, by simp, 0, rfl⟩
    case round =>
      obtain ⟨k, hk, rfl, hb, nd, rfl⟩ := hrel
      have HB := Lib.hid hb
      by_cases hlt : k < l.length
      · obtain ⟨b, off, rfl, hbb, hc⟩ := hr.2 (by omega)
        obtain ⟨b2, off2, rfl, hbb2, hc2⟩ := hr2.2 (by omega)
        obtain ⟨x, hx⟩ : ∃ x, x = l.getD k 0 := ⟨_, rfl⟩
        obtain ⟨y, hy⟩ : ∃ y, y = m.getD k 0 := ⟨_, rfl⟩
        have c0 : w.cell? ⟨b, off + k, none⟩ = some (.int .i64 x) := by rw [hx]; exact hc k _ (ints_get hlt)
        have c1 : w.cell? ⟨b2, off2 + k, none⟩ = some (.int .i64 y) := by rw [hy]; exact hc2 k _ (ints_get (by have := HL.out; omega))
        have hkI : (0 : Int) ≤ (k : Int) ∧ (k : Int) < (l.length : Int) := by omega
        have hx' : x = l[k] := by rw [hx]; simp [hlt]
        have hy' : y = m[k]'(by have := HL.out; omega) := by rw [hy]; simp [show k < m.length from by have := HL.out; omega]
        have HX := Lib.hid (And.intro hx' hy')
        clear hx hy hx' hy' hb hc hc2 hr hr2
        by_cases hxy : x = y
        · subst hxy
          have hne : (x != x) = false := by simp
          go_upto_region 6 with fail
          go_quiet (fail)
          go_wp2_with fail
          go_roundg (gk - 1)
          case measure => omega
          case rel =>
            refine ⟨k + 1, by omega, by go_num, ?_, _, rfl⟩
            rw [List.take_succ_eq_append_getElem hlt, List.take_succ_eq_append_getElem (by have := HL.out; omega : k < m.length), HB.out, ← HX.out.1, ← HX.out.2]
        · have hne : (x != y) = true := by simp [hxy]
          go_upto_region 6 with fail
          go_quiet (fail)
          go_wp2_with fail
          go_ret
          refine ⟨?_, _, World.drewN_drewN _ _ _⟩
          have : decide (l = m) = false := decide_eq_false fun e => by
            apply hxy
            rw [HX.out.1, HX.out.2]
            simp [e]
          rw [this]; rfl
      · obtain rfl : k = l.length := by omega
        clear hb
        go_wp2_with fail
        go_ret
        refine ⟨?_, nd, rfl⟩
        have h1 := HB.out
        rw [List.take_length, show l.length = m.length from HL.out.symm, List.take_length] at h1
        rw [decide_eq_true h1]; rfl
  · have hle : ((l.length : Int) != (m.length : Int)) = true := by simp; omega
    have HL := Lib.hid hlen
    clear hlen
    go_enter Try.func28, Try.ntmps28
    go_wp2_with fail
    go_ret
    refine ⟨?_, 0, rfl⟩
    rw [decide_eq_false (fun e => HL.out (by rw [e]))]; rfl
end Go.Proofs.Ythmldeningpjbaa
/- Ports that are being made: what lies where. -/
namespace Go.Proofs.Ythmldeningpjbaa
open Go Go.RowKit Sp Pt
set_option linter.unusedVariables false

structure BrX where
  d : Int
  path : List Int
  A : Option Addr
  c : Nat
def BrX.b (x : BrX) : Brt := ⟨x.d, x.path⟩
def brx (b : BrX) : List Value := [.int .i64 b.d, .slice b.A b.path.length b.c]
abbrev brxs (l : List BrX) : List Value := l.flatMap brx
structure MdC where
  D : Nat
  rb : Nat
  pb : Nat
  ib : Nat
  lb : Nat
  tg : Int
structure MdS (K : MdC) (W0 : World) (chs : List Chn) (Ac : Option Addr) (cc : Nat) (fc : List Nat) (bs : List BrX) (Ab : Option Addr) (cb : Nat) (fb : List Nat) (w : World) : Prop where
  bel : Below K.D W0 w
  nx : NxS K.D w K.ib K.lb
  res : w.heap[K.rb]? = some (.cells #[.slice none 0 0, .slice none 0 0, .int .i64 0] 26 (0, 0))
  prt : w.heap[K.pb]? = some (.cells #[.slice Ac chs.length cc, .slice Ab bs.length cb, .int .i64 K.tg] 26 (0, 0))
  oc : OwnS w 144 3 Ac chs.length cc (chcs chs) fc
  ob : OwnS w 53 2 Ab bs.length cb (brxs bs) fb
  pth : ∀ x ∈ bs, ∃ g, x.A = some ⟨g, 0, none⟩ ∧ OwnS w 3 1 x.A x.path.length x.c (ints x.path) [g] ∧ K.D ≤ g ∧ g ∉ [K.rb, K.pb, K.ib, K.lb] ∧ g ∉ fc ∧ g ∉ fb
  sp : K.D ≤ K.rb ∧ K.D ≤ K.pb ∧ K.rb ≠ K.pb ∧ K.rb ≠ K.ib ∧ K.rb ≠ K.lb ∧ K.pb ≠ K.ib ∧ K.pb ≠ K.lb
  sc : ∀ g ∈ fc, K.D ≤ g ∧ g ∉ [K.rb, K.pb, K.ib, K.lb] ∧ g ∉ fb
  sb : ∀ g ∈ fb, K.D ≤ g ∧ g ∉ [K.rb, K.pb, K.ib, K.lb]
def Away (K : MdC) (fc : List Nat) (bs : List BrX) (fb : List Nat) (x : Nat) : Prop := K.D ≤ x ∧ x ∉ [K.rb, K.pb, K.ib, K.lb] ∧ x ∉ fc ∧ x ∉ fb ∧ ∀ y ∈ bs, y.A ≠ some ⟨x, 0, none⟩
section
variable {K : MdC} {W0 w w' : World} {chs : List Chn} {Ac : Option Addr} {cc : Nat} {fc : List Nat} {bs : List BrX} {Ab : Option Addr} {cb : Nat} {fb : List Nat}
theorem MdS.lo (h : MdS K W0 chs Ac cc fc bs Ab cb fb w) : K.D ≤ w.heap.size := by have := h.sp.1; have := heap_lt h.res; omega
theorem MdS.fresh (h : MdS K W0 chs Ac cc fc bs Ab cb fb w) {x : Nat} (hx : w.heap.size ≤ x) : Away K fc bs fb x := by
  have h1 := heap_lt h.res
  have h2 := heap_lt h.prt
  have h3 := h.nx.lt
  refine ⟨by omega, ?_, fun e => by have := h.oc.lt _ e; omega, fun e => by have := h.ob.lt _ e; omega, fun y hy e => ?_⟩
  · simp only [List.mem_cons, List.not_mem_nil, or_false]; omega
  · obtain ⟨g, e1, e2, _⟩ := h.pth y hy
    rw [e1] at e
    injection e with e
    injection e with e _ _
    have := e2.lt g (by simp)
    omega
theorem MdS.away (h : MdS K W0 chs Ac cc fc bs Ab cb fb w) {S : List Nat} (hk : Keep S w w') (hS : ∀ x ∈ S, Away K fc bs fb x) : MdS K W0 chs Ac cc fc bs Ab cb fb w' := by
  have n : ∀ {x : Nat}, x ∈ [K.rb, K.pb, K.ib, K.lb] → x ∉ S := fun {x} hx hm => (hS x hm).2.1 hx
  refine ⟨h.bel.trans (hk.below h.lo (fun x hx => (hS x hx).1)), h.nx.keep hk (fun x hx => ⟨(hS x hx).1, fun e => n (x := K.ib) (by simp) (e ▸ hx), fun e => n (x := K.lb) (by simp) (e ▸ hx)⟩), (hk.block _ (heap_lt h.res) (n (by simp))).trans h.res, (hk.block _ (heap_lt h.prt) (n (by simp))).trans h.prt,
    h.oc.keepS hk (fun g hg hm => (hS g hm).2.2.1 hg), h.ob.keepS hk (fun g hg hm => (hS g hm).2.2.2.1 hg), fun x hx => ?_, h.sp, h.sc, h.sb⟩
  obtain ⟨g, e1, e2, e3⟩ := h.pth x hx
  exact ⟨g, e1, e2.keepS hk (fun g' hg hm => by rw [List.mem_singleton.1 hg] at hm; exact (hS g hm).2.2.2.2 x hx e1), e3⟩
theorem MdS.below (h : MdS K W0 chs Ac cc fc bs Ab cb fb w) (hb : Below w.heap.size w w') : MdS K W0 chs Ac cc fc bs Ab cb fb w' := h.away (S := []) (Keep.of_below hb) (by simp)
theorem MdS.next (h : MdS K W0 chs Ac cc fc bs Ab cb fb w) (hn : NxS K.D w' K.ib K.lb) (hk : Keep [K.ib] w w') : MdS K W0 chs Ac cc fc bs Ab cb fb w' := by
  refine ⟨h.bel.trans (hk.below h.lo (fun x hx => by rw [List.mem_singleton.1 hx]; exact hn.lt.2.2.1)), hn, (hk.block _ (heap_lt h.res) (by simpa using h.sp.2.2.2.1)).trans h.res, (hk.block _ (heap_lt h.prt) (by simpa using h.sp.2.2.2.2.2.1)).trans h.prt,
    h.oc.keepS hk (fun g hg => fun hm => (h.sc g hg).2.1 (by rw [List.mem_singleton.1 hm]; simp)), h.ob.keepS hk (fun g hg hm => (h.sb g hg).2 (by rw [List.mem_singleton.1 hm]; simp)), fun x hx => ?_, h.sp, h.sc, h.sb⟩
  obtain ⟨g, e1, e2, e3, e4, e5⟩ := h.pth x hx
  exact ⟨g, e1, e2.keepS hk (fun g' hg hm => by rw [List.mem_singleton.1 hg] at hm; exact e4 (by rw [List.mem_singleton.1 hm]; simp)), e3, e4, e5⟩
theorem MdS.pushC (h : MdS K W0 chs Ac cc fc bs Ab cb fb w) {A : Option Addr} {c g : Nat} {x : Chn} (hk : Keep (K.ib :: K.pb :: fc) w w') (hn : NxS K.D w' K.ib K.lb) (ho : OwnS w' 144 3 A (chs.length + 1) c (chcs chs ++ chc x) [g]) (hg : g ∈ fc ∨ w.heap.size ≤ g)
    (hp : w'.heap[K.pb]? = some (.cells #[.slice A (chs.length + 1) c, .slice Ab bs.length cb, .int .i64 K.tg] 26 (0, 0))) : MdS K W0 (chs ++ [x]) A c [g] bs Ab cb fb w' := by
  have hS : ∀ y ∈ K.ib :: K.pb :: fc, K.D ≤ y := by
    intro y hy
    rcases List.mem_cons.1 hy with rfl | hy
    · exact h.nx.lt.2.2.1
    · rcases List.mem_cons.1 hy with rfl | hy
      · exact h.sp.2.1
      · exact (h.sc y hy).1
  have hgA : K.D ≤ g ∧ g ∉ [K.rb, K.pb, K.ib, K.lb] ∧ g ∉ fb ∧ ∀ y ∈ bs, y.A ≠ some ⟨g, 0, none⟩ := by
    rcases hg with e | e
    · refine ⟨(h.sc g e).1, (h.sc g e).2.1, (h.sc g e).2.2, fun y hy e2 => ?_⟩
      obtain ⟨g', e3, _, _, _, e4, _⟩ := h.pth y hy
      rw [e3] at e2
      injection e2 with e2
      injection e2 with e2 _ _
      exact e4 (e2 ▸ e)
    · obtain ⟨a1, a2, a3, a4, a5⟩ := h.fresh e
      exact ⟨a1, a2, a4, a5⟩
  refine ⟨h.bel.trans (hk.below h.lo hS), hn, (hk.block _ (heap_lt h.res) ?_).trans h.res, by rw [List.length_append]; exact hp, by rw [List.length_append, show chcs (chs ++ [x]) = chcs chs ++ chc x from flat_snoc _ _ _]; exact ho,
    h.ob.keepS hk (fun y hy hm => ?_), fun y hy => ?_, h.sp, fun y hy => ?_, h.sb⟩
  · simp only [List.mem_cons, not_or]
    exact ⟨h.sp.2.2.2.1, h.sp.2.2.1, fun e => (h.sc _ e).2.1 (by simp)⟩
  · rcases List.mem_cons.1 hm with rfl | hm
    · exact (h.sb _ hy).2 (by simp)
    · rcases List.mem_cons.1 hm with rfl | hm
      · exact (h.sb _ hy).2 (by simp)
      · exact (h.sc y hm).2.2 hy
  · obtain ⟨g', e1, e2, e3, e4, e5, e6⟩ := h.pth y hy
    refine ⟨g', e1, e2.keepS hk (fun z hz hm => ?_), e3, e4, ?_, e6⟩
    · rw [List.mem_singleton.1 hz] at hm
      rcases List.mem_cons.1 hm with e | hm
      · exact e4 (by rw [e]; simp)
      · rcases List.mem_cons.1 hm with e | hm
        · exact e4 (by rw [e]; simp)
        · exact e5 hm
    · simp only [List.mem_singleton]
      rintro rfl
      exact hgA.2.2.2 y hy e1
  · rw [List.mem_singleton.1 hy]
    exact ⟨hgA.1, hgA.2.1, hgA.2.2.1⟩
theorem MdS.pushB (h : MdS K W0 chs Ac cc fc bs Ab cb fb w) {A : Option Addr} {c g : Nat} {x : BrX} (hk : Keep (K.pb :: fb) w w') (ho : OwnS w' 53 2 A (bs.length + 1) c (brxs bs ++ brx x) [g]) (hg : g ∈ fb ∨ w.heap.size ≤ g)
    (hp : w'.heap[K.pb]? = some (.cells #[.slice Ac chs.length cc, .slice A (bs.length + 1) c, .int .i64 K.tg] 26 (0, 0)))
    (gp : Nat) (hx : x.A = some ⟨gp, 0, none⟩) (hxo : OwnS w 3 1 x.A x.path.length x.c (ints x.path) [gp]) (haw : Away K fc bs fb gp) : MdS K W0 chs Ac cc fc (bs ++ [x]) A c [g] w' := by
  have hS : ∀ y ∈ K.pb :: fb, K.D ≤ y := by
    intro y hy
    rcases List.mem_cons.1 hy with rfl | hy
    · exact h.sp.2.1
    · exact (h.sb y hy).1
  have hgp := hxo.lt gp (by simp)
  have hgA : K.D ≤ g ∧ g ∉ [K.rb, K.pb, K.ib, K.lb] ∧ g ∉ fc ∧ (∀ y ∈ bs, y.A ≠ some ⟨g, 0, none⟩) ∧ gp ≠ g := by
    rcases hg with e | e
    · refine ⟨(h.sb g e).1, (h.sb g e).2, fun e2 => (h.sc g e2).2.2 e, fun y hy e2 => ?_, fun e2 => haw.2.2.2.1 (e2 ▸ e)⟩
      obtain ⟨g', e3, _, _, _, _, e4⟩ := h.pth y hy
      rw [e3] at e2
      injection e2 with e2
      injection e2 with e2 _ _
      exact e4 (e2 ▸ e)
    · obtain ⟨a1, a2, a3, a4, a5⟩ := h.fresh e
      exact ⟨a1, a2, a3, a5, by omega⟩
  have hkp : ∀ {z : Nat}, z ∉ [K.rb, K.pb, K.ib, K.lb] → z ∉ fb → z ∉ K.pb :: fb := fun {z} h1 h2 hm => by
    rcases List.mem_cons.1 hm with rfl | hm
    · exact h1 (by simp)
    · exact h2 hm
  have nb : ∀ z, z ∈ [K.ib, K.lb] → z ∉ K.pb :: fb := fun z hz hm => by
    rcases List.mem_cons.1 hm with rfl | hm
    · have := h.sp; simp at hz; omega
    · exact (h.sb z hm).2 (by simp at hz ⊢; rcases hz with e | e <;> simp [e])
  refine ⟨h.bel.trans (hk.below h.lo hS), h.nx.keep hk (fun z hz => ⟨hS z hz, fun e => nb K.ib (by simp) (e ▸ hz), fun e => nb K.lb (by simp) (e ▸ hz)⟩), (hk.block _ (heap_lt h.res) ?_).trans h.res, by rw [List.length_append]; exact hp,
    h.oc.keepS hk (fun z hz => hkp (h.sc z hz).2.1 (h.sc z hz).2.2), by rw [List.length_append, show brxs (bs ++ [x]) = brxs bs ++ brx x from flat_snoc _ _ _]; exact ho, fun y hy => ?_, h.sp, fun z hz => ⟨(h.sc z hz).1, (h.sc z hz).2.1, fun e => ?_⟩, fun z hz => ?_⟩
  · intro hm
    rcases List.mem_cons.1 hm with e | hm
    · exact h.sp.2.2.1 e
    · exact (h.sb _ hm).2 (by simp)
  · rcases List.mem_append.1 hy with hy | hy
    · obtain ⟨g', e1, e2, e3, e4, e5, e6⟩ := h.pth y hy
      refine ⟨g', e1, e2.keepS hk (fun z hz => by rw [List.mem_singleton.1 hz]; exact hkp e4 e6), e3, e4, e5, ?_⟩
      simp only [List.mem_singleton]
      rintro rfl
      exact hgA.2.2.2.1 y hy e1
    · rw [List.mem_singleton.1 hy]
      exact ⟨gp, hx, hxo.keepS hk (fun z hz => by rw [List.mem_singleton.1 hz]; exact hkp haw.2.1 haw.2.2.2.1), haw.1, haw.2.1, haw.2.2.1, by simpa using hgA.2.2.2.2⟩
  · rw [List.mem_singleton.1 e] at hz; exact hgA.2.2.1 hz
  · rw [List.mem_singleton.1 hz]; exact ⟨hgA.1, hgA.2.1⟩
theorem brxs_get {l : List BrX} {k : Nat} (hk : k < l.length) : (brxs l)[k*2]? = some (.int .i64 l[k].d) ∧ (brxs l)[k*2+1]? = some (.slice l[k].A l[k].path.length l[k].c) :=
  ⟨flat_get (f := brx) (s := 2) (fun _ => rfl) hk (j := 0) (by decide), flat_get (f := brx) (s := 2) (fun _ => rfl) hk (j := 1) (by decide)⟩
theorem MdS.prtB (h : MdS K W0 chs Ac cc fc bs Ab cb fb w) (hk : Keep [K.rb] w w') : PrtB w'.heap.size w' Ac cc Ab cb ⟨chs, bs.map BrX.b, K.tg⟩ := by
  have nil : ∀ {e : TypeId} {s n c : Nat} {A : Option Addr} {xs : List Value} {q : List Nat}, OwnS w' e s A n c xs q → A = none → c = 0 := fun {e s n c A xs q} ho hA => by
    rcases ho.2 with ⟨_, _, h3, _⟩ | ⟨g, cur, e1, _⟩
    · exact h3
    · rw [hA] at e1; cases e1
  have hoc := h.oc.keepS hk (fun g hg hm => (h.sc g hg).2.1 (by rw [List.mem_singleton.1 hm]; simp))
  have hob := h.ob.keepS hk (fun g hg hm => (h.sb g hg).2 (by rw [List.mem_singleton.1 hm]; simp))
  refine ⟨RdB.of hoc.rd (Nat.le_refl _), ?_, ⟨hoc.ge, hoc.cap, nil hoc⟩, by rw [List.length_map]; exact ⟨hob.ge, hob.cap, nil hob⟩⟩
  intro k hk'
  simp only [List.length_map] at hk'
  obtain ⟨b, off, e, hb, hc⟩ := hob.rd.2 (by omega)
  obtain ⟨g1, g2⟩ := brxs_get hk'
  obtain ⟨g, e1, e2, _, e3, _⟩ := h.pth bs[k] (List.getElem_mem _)
  have e2 := e2.keepS hk (fun z hz hm => by rw [List.mem_singleton.1 hz] at hm; exact e3 (by rw [List.mem_singleton.1 hm]; simp))
  refine ⟨b, off, bs[k].A, bs[k].c, e, hb, ?_, ?_, ?_⟩
  · rw [hc _ _ g1]; simp [BrX.b]
  · rw [Nat.add_assoc, hc _ _ g2]; simp [BrX.b]
  · simp only [List.getElem_map, BrX.b]
    exact ⟨RdB.of e2.rd (Nat.le_refl _), e2.ge, e2.cap, nil e2⟩
end
end Go.Proofs.Ythmldeningpjbaa
