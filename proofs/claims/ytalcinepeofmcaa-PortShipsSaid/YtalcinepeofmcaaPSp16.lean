import Derived.Test.YtalcinepeofmcaaPSp15
import Derived.Laws.StructEq
import Derived.Test.YtalcinepeofmcaaPSp8
import Derived.Test.YtalcinepeofmcaaPSp9
import Derived.Test.YtalcinepeofmcaaPSp0
import Derived.Test.YtalcinepeofmcaaPSp4
import Derived.Test.YtalcinepeofmcaaPSp14
set_option linter.unusedVariables false
set_option linter.unusedSimpArgs false
set_option maxRecDepth 100000
set_option maxHeartbeats 40000000
namespace Go.Proofs.Ytalcinepeofmcaa
open Go Go.RowKit Sp Pt
theorem eqIntsP_any (A : Option Addr) (c : Nat) (l : List Int) (B : Option Addr) (d : Nat) (m : List Int) (w : World) (hr : Rd w 1 A l.length (ints l)) (hr2 : Rd w 1 B m.length (ints m)) (hm : l.length ≤ 9223372036854775807) (hm2 : m.length ≤ 9223372036854775807) :
    Calls Try.prog 22 #[.slice A l.length c, .slice B m.length d] w fun e w' => e = .returned (.bool (decide (l = m))) ∧ Below w.heap.size w w' := by
  by_cases hlen : l.length = m.length
  · have hle : ((l.length : Int) != (m.length : Int)) = false := by simp; omega
    have hmm : m.length = l.length := hlen.symm;rw [hmm] at hr2 ⊢;have HL := Lib.hid hmm;clear hlen hmm
    go_enter Try.func22, Try.ntmps22
    go_wp2_with fail
    go_loopg [13] (l.length) (fun g i wr => ∃ k : Nat, g + k = l.length ∧ i = .int .i64 k ∧ l.take k = m.take k ∧ Keep [] w wr)
    case atStart => exact ⟨0, rfl, rfl, by simp, Keep.refl _ _⟩
    case round =>
      obtain ⟨k, hk, rfl, hb, hK⟩ := hrel;have HB := Lib.hid (And.intro hb hK);by_cases hlt : k < l.length
      · obtain ⟨b, off, rfl, hbb, hc⟩ := hr.2 (by omega);obtain ⟨b2, off2, rfl, hbb2, hc2⟩ := hr2.2 (by omega);obtain ⟨x, hx⟩ : ∃ x, x = l.getD k 0 := ⟨_, rfl⟩;obtain ⟨y, hy⟩ : ∃ y, y = m.getD k 0 := ⟨_, rfl⟩;have c0 : wr.cell? ⟨b, off + k, none⟩ = some (.int .i64 x) := hK.cell (by rw [hx]; exact hc k _ (iG_ hlt)) (by simp);have c1 : wr.cell? ⟨b2, off2 + k, none⟩ = some (.int .i64 y) := hK.cell (by rw [hy]; exact hc2 k _ (iG_ (by have := HL.out; omega))) (by simp);have hkI : (0 : Int) ≤ (k : Int) ∧ (k : Int) < (l.length : Int) := by omega
        have hx' : x = l[k] := by rw [hx]; simp [hlt]
        have hy' : y = m[k]'(by have := HL.out; omega) := by rw [hy]; simp [show k < m.length from by have := HL.out; omega]
        have HX := Lib.hid (And.intro hx' hy');clear hx hy hx' hy' hb hK hc hc2 hr hr2;by_cases hxy : x = y
        · subst hxy;have hne : (x != x) = false := by simp
          go_upto_region 6 with fail
          go_quiet (fail);go_wp2_with fail
          go_roundg (gk - 1);case measure => omega
          case rel =>
            refine ⟨k + 1, by omega, by go_num, ?_, HB.out.2.drewN _⟩;rw [List.take_succ_eq_append_getElem hlt, List.take_succ_eq_append_getElem (by have := HL.out; omega : k < m.length), HB.out.1, ← HX.out.1, ← HX.out.2]
        · have hne : (x != y) = true := by simp [hxy]
          go_upto_region 6 with fail
          go_quiet (fail);go_wp2_with fail
          go_ret;refine ⟨?_, below_drewN (HB.out.2.below (Nat.le_refl _) (by simp)) _⟩;have : decide (l = m) = false := decide_eq_false fun e => by
            apply hxy;rw [HX.out.1, HX.out.2];simp [e]
          rw [this]; rfl
      · obtain rfl : k = l.length := by omega
        clear hK hb;go_wp2_with fail
        go_ret;refine ⟨?_, HB.out.2.below (Nat.le_refl _) (by simp)⟩;have h1 := HB.out.1;rw [List.take_length, show l.length = m.length from HL.out.symm, List.take_length] at h1;rw [decide_eq_true h1]; rfl
  · have hle : ((l.length : Int) != (m.length : Int)) = true := by simp; omega
    have HL := Lib.hid hlen;clear hlen
    go_enter Try.func22, Try.ntmps22
    go_wp2_with fail
    go_ret;refine ⟨?_, Below.refl _ _⟩;rw [decide_eq_false (fun e => HL.out (by rw [e]))]; rfl
theorem plc_neq (x y : Plc) (w : World) : (binOp .neq 95 (.agg #[.int .i64 x.berth, .int .i64 x.start]) (.agg #[.int .i64 y.berth, .int .i64 y.start])).run Try.prog w = .ok (.bool (!decide (x = y))) w := by
  have u3 := Try.underlying3;have a3 := Try.isAgg3;have z3 := Try.sizeOf3;have hS : Try.prog.underlying 95 = some (.struct (Try.prog.fieldsOf 95)) := by kernel_rfl
  have hp : Try.prog.stoodInHeld 95 = false := by kernel_rfl
  rw [run_neq_struct, show (10000 : Nat) = 9999 + 1 from rfl, run_equalIn_agg w 9999 95 _ _ hS hp];simp only [Program.fieldsOf, Try.underlying95];go_simp;obtain ⟨a, b⟩ := x;obtain ⟨a', b'⟩ := y;by_cases h1 : a = a' <;> by_cases h2 : b = b' <;> simp [h1, h2]
theorem eqPlcs_any (A : Option Addr) (c : Nat) (l : List Plc) (B : Option Addr) (d : Nat) (m : List Plc) (w : World) (hr : Rd w 2 A l.length (plcs l)) (hr2 : Rd w 2 B m.length (plcs m)) (hm : l.length ≤ 9223372036854775807) (hm2 : m.length ≤ 9223372036854775807) :
    Calls Try.prog 23 #[.slice A l.length c, .slice B m.length d] w fun e w' => e = .returned (.bool (decide (l = m))) ∧ Below w.heap.size w w' := by
  by_cases hlen : l.length = m.length
  · have hle : ((l.length : Int) != (m.length : Int)) = false := by simp; omega
    have hmm : m.length = l.length := hlen.symm;rw [hmm] at hr2 ⊢;have HL := Lib.hid hmm;clear hlen hmm
    go_enter Try.func23, Try.ntmps23
    go_wp2_with fail
    go_loopg [13] (l.length) (fun g i wr => ∃ k : Nat, g + k = l.length ∧ i = .int .i64 k ∧ l.take k = m.take k ∧ Keep [] w wr)
    case atStart => exact ⟨0, rfl, rfl, by simp, Keep.refl _ _⟩
    case round =>
      obtain ⟨k, hk, rfl, hb, hK⟩ := hrel;have HB := Lib.hid (And.intro hb hK);by_cases hlt : k < l.length
      · obtain ⟨b, off, rfl, hbb, hc⟩ := hr.2 (by omega);obtain ⟨b2, off2, rfl, hbb2, hc2⟩ := hr2.2 (by omega);have hlm : k < m.length := by have := HL.out; omega
        obtain ⟨x, hx'⟩ : ∃ x, x = l[k] := ⟨_, rfl⟩;obtain ⟨y, hy'⟩ : ∃ y, y = m[k] := ⟨_, rfl⟩;obtain ⟨s0, s1⟩ := plcs_get hlt;obtain ⟨t0, t1⟩ := plcs_get hlm;rw [← hx'] at s0 s1;rw [← hy'] at t0 t1;have bk : ∀ o u, w.cell? ⟨b, o, none⟩ = some u → wr.cell? ⟨b, o, none⟩ = some u := fun o u h => hK.cell h (by simp);have bk2 : ∀ o u, w.cell? ⟨b2, o, none⟩ = some u → wr.cell? ⟨b2, o, none⟩ = some u := fun o u h => hK.cell h (by simp);have c0 := bk (off + k*2) _ (hc _ _ s0);have c1 := bk (off + k*2 + 1) _ (hc _ _ s1);have d0 := bk2 (off2 + k*2) _ (hc2 _ _ t0);have d1 := bk2 (off2 + k*2 + 1) _ (hc2 _ _ t1);clear bk bk2 s0 t0 s1 t1;have hkI : (0 : Int) ≤ (k : Int) ∧ (k : Int) < (l.length : Int) := by omega
        have HX := Lib.hid (And.intro hx' hy');clear hx' hy' hb hK hc hc2 hr hr2;by_cases hxy : x = y
        · subst hxy;have hne : ∀ w, (binOp .neq 95 (.agg #[.int .i64 x.berth, .int .i64 x.start]) (.agg #[.int .i64 x.berth, .int .i64 x.start])).run Try.prog w = .ok (.bool false) w := fun w => by rw [plc_neq]; simp
          go_upto_region 6 with fail
          go_quiet (fail);go_wp2_with fail
          go_roundg (gk - 1);case measure => omega
          case rel =>
            refine ⟨k + 1, by omega, by go_num, ?_, HB.out.2.drewN _⟩;rw [List.take_succ_eq_append_getElem hlt, List.take_succ_eq_append_getElem (by have := HL.out; omega : k < m.length), HB.out.1, ← HX.out.1, ← HX.out.2]
        · have hne : ∀ w, (binOp .neq 95 (.agg #[.int .i64 x.berth, .int .i64 x.start]) (.agg #[.int .i64 y.berth, .int .i64 y.start])).run Try.prog w = .ok (.bool true) w := fun w => by rw [plc_neq]; simp [hxy]
          go_upto_region 6 with fail
          go_quiet (fail);go_wp2_with fail
          go_ret;refine ⟨?_, below_drewN (HB.out.2.below (Nat.le_refl _) (by simp)) _⟩;have : decide (l = m) = false := decide_eq_false fun e => by
            apply hxy;rw [HX.out.1, HX.out.2];simp [e]
          rw [this]; rfl
      · obtain rfl : k = l.length := by omega
        clear hK hb;go_wp2_with fail
        go_ret;refine ⟨?_, HB.out.2.below (Nat.le_refl _) (by simp)⟩;have h1 := HB.out.1;rw [List.take_length, show l.length = m.length from HL.out.symm, List.take_length] at h1;rw [decide_eq_true h1]; rfl
  · have hle : ((l.length : Int) != (m.length : Int)) = true := by simp; omega
    have HL := Lib.hid hlen;clear hlen
    go_enter Try.func23, Try.ntmps23
    go_wp2_with fail
    go_ret;refine ⟨?_, Below.refl _ _⟩;rw [decide_eq_false (fun e => HL.out (by rw [e]))]; rfl
theorem eqIntsP_same (A B : Option Addr) (c d n : Nat) (l : List Int) (w : World) (hn : n = l.length) (hm : n ≤ 1000) (h1 : Rd w 1 A n (ints l)) (h2 : Rd w 1 B n (ints l)) :
    Calls Try.prog 22 #[.slice A n c, .slice B n d] w fun e w' => e = .returned (.bool true) ∧ Below w.heap.size w w' := by
  subst hn;have := eqIntsP_any A c l B d l w h1 h2 (by omega) (by omega)
  rwa [decide_eq_true rfl] at this
theorem eqPlcs_same (A B : Option Addr) (c d n : Nat) (l : List Plc) (w : World) (hn : n = l.length) (hm : n ≤ 1000) (h1 : Rd w 2 A n (plcs l)) (h2 : Rd w 2 B n (plcs l)) :
    Calls Try.prog 23 #[.slice A n c, .slice B n d] w fun e w' => e = .returned (.bool true) ∧ Below w.heap.size w w' := by
  subst hn;have := eqPlcs_any A c l B d l w h1 h2 (by omega) (by omega)
  rwa [decide_eq_true rfl] at this
end Go.Proofs.Ytalcinepeofmcaa

namespace Go.Proofs.Ytalcinepeofmcaa
open Go Go.RowKit Sp Pt
structure BrX where
  d : Int
  path : List Int
  A : Option Addr
  c : Nat
def BrX.b (x : BrX) : Brt := ⟨x.d, x.path⟩
def brx (b : BrX) : List Value := [.int .i64 b.d, .slice b.A b.path.length b.c]
abbrev brxs (l : List BrX) : List Value := l.flatMap brx
structure MdC where
  D : Nat
  rb : Nat
  pb : Nat
  ib : Nat
  lb : Nat
  tg : Int
structure MdS (K : MdC) (W0 : World) (chs : List Chn) (Ac : Option Addr) (cc : Nat) (fc : List Nat) (bs : List BrX) (Ab : Option Addr) (cb : Nat) (fb : List Nat) (w : World) : Prop where
  bel : Below K.D W0 w
  nx : NxS K.D w K.ib K.lb
  res : w.heap[K.rb]? = some (.cells #[.slice none 0 0, .slice none 0 0, .int .i64 0] 44 (0, 0))
  prt : w.heap[K.pb]? = some (.cells #[.slice Ac chs.length cc, .slice Ab bs.length cb, .int .i64 K.tg] 44 (0, 0))
  oc : OwnS w 67 3 Ac chs.length cc (chcs chs) fc
  ob : OwnS w 63 2 Ab bs.length cb (brxs bs) fb
  pth : ∀ x ∈ bs, ∃ g, x.A = some ⟨g, 0, none⟩ ∧ OwnS w 3 1 x.A x.path.length x.c (ints x.path) [g] ∧ K.D ≤ g ∧ g ∉ [K.rb, K.pb, K.ib, K.lb] ∧ g ∉ fc ∧ g ∉ fb
  sp : K.D ≤ K.rb ∧ K.D ≤ K.pb ∧ K.rb ≠ K.pb ∧ K.rb ≠ K.ib ∧ K.rb ≠ K.lb ∧ K.pb ≠ K.ib ∧ K.pb ≠ K.lb
  sc : ∀ g ∈ fc, K.D ≤ g ∧ g ∉ [K.rb, K.pb, K.ib, K.lb] ∧ g ∉ fb
  sb : ∀ g ∈ fb, K.D ≤ g ∧ g ∉ [K.rb, K.pb, K.ib, K.lb]
def Away (K : MdC) (fc : List Nat) (bs : List BrX) (fb : List Nat) (x : Nat) : Prop := K.D ≤ x ∧ x ∉ [K.rb, K.pb, K.ib, K.lb] ∧ x ∉ fc ∧ x ∉ fb ∧ ∀ y ∈ bs, y.A ≠ some ⟨x, 0, none⟩
section
variable {K : MdC} {W0 w w' : World} {chs : List Chn} {Ac : Option Addr} {cc : Nat} {fc : List Nat} {bs : List BrX} {Ab : Option Addr} {cb : Nat} {fb : List Nat}
theorem MdS.lo (h : MdS K W0 chs Ac cc fc bs Ab cb fb w) : K.D ≤ w.heap.size := by have := h.sp.1; have := hL_ h.res; omega
theorem MdS.fresh (h : MdS K W0 chs Ac cc fc bs Ab cb fb w) {x : Nat} (hx : w.heap.size ≤ x) : Away K fc bs fb x := by
  have h1 := hL_ h.res;have h2 := hL_ h.prt;have h3 := h.nx.lt;refine ⟨by omega, ?_, fun e => by have := h.oc.lt _ e; omega, fun e => by have := h.ob.lt _ e; omega, fun y hy e => ?_⟩
  · simp only [List.mem_cons, List.not_mem_nil, or_false]; omega
  · obtain ⟨g, e1, e2, _⟩ := h.pth y hy;rw [e1] at e;injection e with e
    injection e with e _ _
    have := e2.lt g (by simp);omega
theorem MdS.away (h : MdS K W0 chs Ac cc fc bs Ab cb fb w) {S : List Nat} (hk : Keep S w w') (hS : ∀ x ∈ S, Away K fc bs fb x) : MdS K W0 chs Ac cc fc bs Ab cb fb w' := by
  have n : ∀ {x : Nat}, x ∈ [K.rb, K.pb, K.ib, K.lb] → x ∉ S := fun {x} hx hm => (hS x hm).2.1 hx;refine ⟨h.bel.trans (hk.below h.lo (fun x hx => (hS x hx).1)), h.nx.keep hk (fun x hx => ⟨(hS x hx).1, fun e => n (x := K.ib) (by simp) (e ▸ hx), fun e => n (x := K.lb) (by simp) (e ▸ hx)⟩), (hk.block _ (hL_ h.res) (n (by simp))).trans h.res, (hk.block _ (hL_ h.prt) (n (by simp))).trans h.prt,
    h.oc.keepS hk (fun g hg hm => (hS g hm).2.2.1 hg), h.ob.keepS hk (fun g hg hm => (hS g hm).2.2.2.1 hg), fun x hx => ?_, h.sp, h.sc, h.sb⟩
  obtain ⟨g, e1, e2, e3⟩ := h.pth x hx;exact ⟨g, e1, e2.keepS hk (fun g' hg hm => by rw [List.mem_singleton.1 hg] at hm; exact (hS g hm).2.2.2.2 x hx e1), e3⟩
theorem MdS.below (h : MdS K W0 chs Ac cc fc bs Ab cb fb w) (hb : Below w.heap.size w w') : MdS K W0 chs Ac cc fc bs Ab cb fb w' := h.away (S := []) (Keep.of_below hb) (by simp)
theorem MdS.next (h : MdS K W0 chs Ac cc fc bs Ab cb fb w) (hn : NxS K.D w' K.ib K.lb) (hk : Keep [K.ib] w w') : MdS K W0 chs Ac cc fc bs Ab cb fb w' := by
  refine ⟨h.bel.trans (hk.below h.lo (fun x hx => by rw [List.mem_singleton.1 hx]; exact hn.lt.2.2.1)), hn, (hk.block _ (hL_ h.res) (by simpa using h.sp.2.2.2.1)).trans h.res, (hk.block _ (hL_ h.prt) (by simpa using h.sp.2.2.2.2.2.1)).trans h.prt,
    h.oc.keepS hk (fun g hg => fun hm => (h.sc g hg).2.1 (by rw [List.mem_singleton.1 hm]; simp)), h.ob.keepS hk (fun g hg hm => (h.sb g hg).2 (by rw [List.mem_singleton.1 hm]; simp)), fun x hx => ?_, h.sp, h.sc, h.sb⟩
  obtain ⟨g, e1, e2, e3, e4, e5⟩ := h.pth x hx;exact ⟨g, e1, e2.keepS hk (fun g' hg hm => by rw [List.mem_singleton.1 hg] at hm; exact e4 (by rw [List.mem_singleton.1 hm]; simp)), e3, e4, e5⟩
theorem MdS.pushC (h : MdS K W0 chs Ac cc fc bs Ab cb fb w) {A : Option Addr} {c g : Nat} {x : Chn} (hk : Keep (K.ib :: K.pb :: fc) w w') (hn : NxS K.D w' K.ib K.lb) (ho : OwnS w' 67 3 A (chs.length + 1) c (chcs chs ++ chc x) [g]) (hg : g ∈ fc ∨ w.heap.size ≤ g)
    (hp : w'.heap[K.pb]? = some (.cells #[.slice A (chs.length + 1) c, .slice Ab bs.length cb, .int .i64 K.tg] 44 (0, 0))) : MdS K W0 (chs ++ [x]) A c [g] bs Ab cb fb w' := by
  have hS : ∀ y ∈ K.ib :: K.pb :: fc, K.D ≤ y := by
    intro y hy;rcases List.mem_cons.1 hy with rfl | hy
    · exact h.nx.lt.2.2.1
    · rcases List.mem_cons.1 hy with rfl | hy
      · exact h.sp.2.1
      · exact (h.sc y hy).1
  have hgA : K.D ≤ g ∧ g ∉ [K.rb, K.pb, K.ib, K.lb] ∧ g ∉ fb ∧ ∀ y ∈ bs, y.A ≠ some ⟨g, 0, none⟩ := by
    rcases hg with e | e
    · refine ⟨(h.sc g e).1, (h.sc g e).2.1, (h.sc g e).2.2, fun y hy e2 => ?_⟩;obtain ⟨g', e3, _, _, _, e4, _⟩ := h.pth y hy;rw [e3] at e2;injection e2 with e2
      injection e2 with e2 _ _
      exact e4 (e2 ▸ e)
    · obtain ⟨a1, a2, a3, a4, a5⟩ := h.fresh e;exact ⟨a1, a2, a4, a5⟩
  refine ⟨h.bel.trans (hk.below h.lo hS), hn, (hk.block _ (hL_ h.res) ?_).trans h.res, by rw [List.length_append]; exact hp, by rw [List.length_append, show chcs (chs ++ [x]) = chcs chs ++ chc x from flat_snoc _ _ _]; exact ho,
    h.ob.keepS hk (fun y hy hm => ?_), fun y hy => ?_, h.sp, fun y hy => ?_, h.sb⟩
  · simp only [List.mem_cons, not_or];exact ⟨h.sp.2.2.2.1, h.sp.2.2.1, fun e => (h.sc _ e).2.1 (by simp)⟩
  · rcases List.mem_cons.1 hm with rfl | hm
    · exact (h.sb _ hy).2 (by simp)
    · rcases List.mem_cons.1 hm with rfl | hm
      · exact (h.sb _ hy).2 (by simp)
      · exact (h.sc y hm).2.2 hy
  · obtain ⟨g', e1, e2, e3, e4, e5, e6⟩ := h.pth y hy;refine ⟨g', e1, e2.keepS hk (fun z hz hm => ?_), e3, e4, ?_, e6⟩
    · rw [List.mem_singleton.1 hz] at hm;rcases List.mem_cons.1 hm with e | hm
      · exact e4 (by rw [e]; simp)
      · rcases List.mem_cons.1 hm with e | hm
        · exact e4 (by rw [e]; simp)
        · exact e5 hm
    · simp only [List.mem_singleton];rintro rfl;exact hgA.2.2.2 y hy e1
  · rw [List.mem_singleton.1 hy];exact ⟨hgA.1, hgA.2.1, hgA.2.2.1⟩
theorem MdS.pushB (h : MdS K W0 chs Ac cc fc bs Ab cb fb w) {A : Option Addr} {c g : Nat} {x : BrX} (hk : Keep (K.pb :: fb) w w') (ho : OwnS w' 63 2 A (bs.length + 1) c (brxs bs ++ brx x) [g]) (hg : g ∈ fb ∨ w.heap.size ≤ g)
    (hp : w'.heap[K.pb]? = some (.cells #[.slice Ac chs.length cc, .slice A (bs.length + 1) c, .int .i64 K.tg] 44 (0, 0)))
    (gp : Nat) (hx : x.A = some ⟨gp, 0, none⟩) (hxo : OwnS w 3 1 x.A x.path.length x.c (ints x.path) [gp]) (haw : Away K fc bs fb gp) : MdS K W0 chs Ac cc fc (bs ++ [x]) A c [g] w' := by
  have hS : ∀ y ∈ K.pb :: fb, K.D ≤ y := by
    intro y hy;rcases List.mem_cons.1 hy with rfl | hy
    · exact h.sp.2.1
    · exact (h.sb y hy).1
  have hgp := hxo.lt gp (by simp);have hgA : K.D ≤ g ∧ g ∉ [K.rb, K.pb, K.ib, K.lb] ∧ g ∉ fc ∧ (∀ y ∈ bs, y.A ≠ some ⟨g, 0, none⟩) ∧ gp ≠ g := by
    rcases hg with e | e
    · refine ⟨(h.sb g e).1, (h.sb g e).2, fun e2 => (h.sc g e2).2.2 e, fun y hy e2 => ?_, fun e2 => haw.2.2.2.1 (e2 ▸ e)⟩;obtain ⟨g', e3, _, _, _, _, e4⟩ := h.pth y hy;rw [e3] at e2;injection e2 with e2
      injection e2 with e2 _ _
      exact e4 (e2 ▸ e)
    · obtain ⟨a1, a2, a3, a4, a5⟩ := h.fresh e;exact ⟨a1, a2, a3, a5, by omega⟩
  have hkp : ∀ {z : Nat}, z ∉ [K.rb, K.pb, K.ib, K.lb] → z ∉ fb → z ∉ K.pb :: fb := fun {z} h1 h2 hm => by
    rcases List.mem_cons.1 hm with rfl | hm
    · exact h1 (by simp)
    · exact h2 hm
  have nb : ∀ z, z ∈ [K.ib, K.lb] → z ∉ K.pb :: fb := fun z hz hm => by
    rcases List.mem_cons.1 hm with rfl | hm
    · have := h.sp; simp at hz; omega
    · exact (h.sb z hm).2 (by simp at hz ⊢; rcases hz with e | e <;> simp [e])
  refine ⟨h.bel.trans (hk.below h.lo hS), h.nx.keep hk (fun z hz => ⟨hS z hz, fun e => nb K.ib (by simp) (e ▸ hz), fun e => nb K.lb (by simp) (e ▸ hz)⟩), (hk.block _ (hL_ h.res) ?_).trans h.res, by rw [List.length_append]; exact hp,
    h.oc.keepS hk (fun z hz => hkp (h.sc z hz).2.1 (h.sc z hz).2.2), by rw [List.length_append, show brxs (bs ++ [x]) = brxs bs ++ brx x from flat_snoc _ _ _]; exact ho, fun y hy => ?_, h.sp, fun z hz => ⟨(h.sc z hz).1, (h.sc z hz).2.1, fun e => ?_⟩, fun z hz => ?_⟩
  · intro hm;rcases List.mem_cons.1 hm with e | hm
    · exact h.sp.2.2.1 e
    · exact (h.sb _ hm).2 (by simp)
  · rcases List.mem_append.1 hy with hy | hy
    · obtain ⟨g', e1, e2, e3, e4, e5, e6⟩ := h.pth y hy;refine ⟨g', e1, e2.keepS hk (fun z hz => by rw [List.mem_singleton.1 hz]; exact hkp e4 e6), e3, e4, e5, ?_⟩;simp only [List.mem_singleton];rintro rfl;exact hgA.2.2.2.1 y hy e1
    · rw [List.mem_singleton.1 hy];exact ⟨gp, hx, hxo.keepS hk (fun z hz => by rw [List.mem_singleton.1 hz]; exact hkp haw.2.1 haw.2.2.2.1), haw.1, haw.2.1, haw.2.2.1, by simpa using hgA.2.2.2.2⟩
  · rw [List.mem_singleton.1 e] at hz; exact hgA.2.2.1 hz
  · rw [List.mem_singleton.1 hz]; exact ⟨hgA.1, hgA.2.1⟩
theorem brxs_get {l : List BrX} {k : Nat} (hk : k < l.length) : (brxs l)[k*2]? = some (.int .i64 l[k].d) ∧ (brxs l)[k*2+1]? = some (.slice l[k].A l[k].path.length l[k].c) :=
  ⟨flat_get (f := brx) (s := 2) (fun _ => rfl) hk (j := 0) (by decide), flat_get (f := brx) (s := 2) (fun _ => rfl) hk (j := 1) (by decide)⟩
theorem MdS.prtB (h : MdS K W0 chs Ac cc fc bs Ab cb fb w) (hk : Keep [K.rb] w w') : PrtB w'.heap.size w' Ac cc Ab cb ⟨chs, bs.map BrX.b, K.tg⟩ := by
  have nil : ∀ {e : TypeId} {s n c : Nat} {A : Option Addr} {xs : List Value} {q : List Nat}, OwnS w' e s A n c xs q → A = none → c = 0 := fun {e s n c A xs q} ho hA => by
    rcases ho.2 with ⟨_, _, h3, _⟩ | ⟨g, cur, e1, _⟩
    · exact h3
    · rw [hA] at e1; cases e1
  have hoc := h.oc.keepS hk (fun g hg hm => (h.sc g hg).2.1 (by rw [List.mem_singleton.1 hm]; simp));have hob := h.ob.keepS hk (fun g hg hm => (h.sb g hg).2 (by rw [List.mem_singleton.1 hm]; simp));refine ⟨RdB.of hoc.rd (Nat.le_refl _), ?_, ⟨hoc.ge, hoc.cap, nil hoc⟩, by rw [List.length_map]; exact ⟨hob.ge, hob.cap, nil hob⟩⟩;intro k hk';simp only [List.length_map] at hk';obtain ⟨b, off, e, hb, hc⟩ := hob.rd.2 (by omega);obtain ⟨g1, g2⟩ := brxs_get hk';obtain ⟨g, e1, e2, _, e3, _⟩ := h.pth bs[k] (List.getElem_mem _);have e2 := e2.keepS hk (fun z hz hm => by rw [List.mem_singleton.1 hz] at hm; exact e3 (by rw [List.mem_singleton.1 hm]; simp));refine ⟨b, off, bs[k].A, bs[k].c, e, hb, ?_, ?_, ?_⟩
  · rw [hc _ _ g1]; simp [BrX.b]
  · rw [Nat.add_assoc, hc _ _ g2]; simp [BrX.b]
  · simp only [List.getElem_map, BrX.b];exact ⟨RdB.of e2.rd (Nat.le_refl _), e2.ge, e2.cap, nil e2⟩
end
end Go.Proofs.Ytalcinepeofmcaa
namespace Go.Proofs.Ytalcinepeofmcaa
open Go Go.RowKit Go.Lib Sp Pt
theorem infoChn9 : (Try.prog.info? 67).map (fun i => (i.zero, i.size, i.bytes)) = some (some (.agg #[.int .i64 0, .int .i64 0, .int .i64 0]), 3, 24) := by kernel_rfl
theorem infoBrt9 : (Try.prog.info? 63).map (fun i => (i.zero, i.size, i.bytes)) = some (some (.agg #[.int .i64 0, .slice none 0 0]), 2, 32) := by kernel_rfl
def Md6Cnt (l : Nat → Bool) : Nat := (if l 3 then 1 else 0) + (if l 5 then 1 else 0) + (if l 7 then 1 else 0)
def Md6V (ib lb pb : Nat) (x0 x1 x2 : Int) (k : Nat) (A : Option Addr) (c : Nat) (s : ApS) : Nat → Value → Prop
  | 0, v => v = .pointer (some ⟨pb, 0, none⟩)
  | 1, v => v = .slice A k c
  | 2, v => v = .func (.func 24) #[] #[.pointer (some ⟨ib, 0, none⟩), .pointer (some ⟨lb, 0, none⟩)]
  | 3, v => v = .int .i64 x0
  | 4, v => v = .func (.func 24) #[] #[.pointer (some ⟨ib, 0, none⟩), .pointer (some ⟨lb, 0, none⟩)]
  | 5, v => v = .int .i64 x1
  | 6, v => v = .func (.func 24) #[] #[.pointer (some ⟨ib, 0, none⟩), .pointer (some ⟨lb, 0, none⟩)]
  | 7, v => v = .int .i64 x2
  | 8, v => v = .int .i64 (1 + x2)
  | 9, v => v = .agg #[.int .i64 x0, .int .i64 x1, .int .i64 (1 + x2)]
  | 10, v => v = .slice (some ⟨s.bs, 0, none⟩) 1 1
  | 11, v => v = .slice s.A (k + 1) s.c
  | 12, v => v = .pointer (some ⟨pb, 0, none⟩)
  | _, _ => True
def Made9Post (w : World) (e : Ending) (w' : World) : Prop := ∃ Ac cc Ab cb p, e = .returned (.agg (prtV Ac cc Ab cb p)) ∧ MdP p ∧ PrtB w'.heap.size w' Ac cc Ab cb p ∧ Below w.heap.size w w'
def ChsOk (l : List Chn) : Prop := ∀ c ∈ l, 0 ≤ c.grow ∧ c.grow < 30 ∧ 0 ≤ c.frost ∧ c.frost < 4 ∧ 1 ≤ c.clear ∧ c.clear ≤ 40
def BtsOk (n : Nat) (l : List BrX) : Prop := ∀ b ∈ l, 300 ≤ b.d ∧ b.d ≤ 1065 ∧ MdPath n b.path
theorem Made9_any (A : Option Addr) (c : Nat) (l : List Int) (w : World) (hr : Rd w 1 A l.length (byts l)) (hl : Bytes l) (hm : l.length ≤ 9223372036854775806) :
    Calls Try.prog 10 #[.slice A l.length c] w (Made9Post w) := by
  obtain ⟨iC, hC0, hC1, hC2, hC3⟩ := info_parts infoChn9;obtain ⟨iB, hB0, hB1, hB2, hB3⟩ := info_parts infoBrt9;obtain ⟨iI, hI0, hI1, hI2, hI3⟩ := info_parts info_intP;have hA : 0 < l.length → ∀ b off, A = some ⟨b, off, none⟩ → b < w.heap.size := fun h0 b off e => by
    obtain ⟨b', o', e', hb, _⟩ := hr.2 h0;rw [e] at e';injection e' with e'
    injection e' with e' _ _
    omega
  obtain ⟨D, hD⟩ : ∃ D, D = w.heap.size := ⟨_, rfl⟩;obtain ⟨W, hW⟩ : ∃ W, W = w.alloc (.cells #[.slice none 0 0, .slice none 0 0, .int .i64 0] 44) := ⟨_, rfl⟩;obtain ⟨rb, hrb⟩ : ∃ b, b = w.heap.size := ⟨_, rfl⟩;have b0 : Below w.heap.size w W := by rw [hW]; exact (Below.refl _ _).alloc (Nat.le_refl _) _
  have gr : W.heap[rb]? = some (.cells #[.slice none 0 0, .slice none 0 0, .int .i64 0] 44 (0, 0)) := by rw [hW, hrb]; exact heap_alloc_new _ _
  have kd : Calls Try.prog 12 #[.slice A l.length c] W (DrawnPost w.heap.size W) := Drawn_some w.heap.size A c l W (hr.below b0) hl hm b0.size hA;have H0 := Lib.hid (And.intro b0 (And.intro gr (And.intro hrb kd)));clear b0 gr kd hr hl hm hA
  go_enter Try.func10, Try.ntmps10
  go_upto_region 1 with fail
  rw [← hW, ← hrb];clear hW hrb;go_upto_region 2 with (go_at_call 12; refine H0.out.2.2.2.mono ?_; rintro e w1 ⟨ib, lb, rfl, nx1, hib, hlb, b1⟩; have H1 := Lib.hid (And.intro nx1 (And.intro hib (And.intro hlb b1))); clear nx1 hib hlb b1)
  go_upto_region 3 with (go_at_call 24; refine (next_some 6 H1.out.1 (by decide)).mono ?_; rintro e w2 ⟨tg, rfl, ⟨tg1, tg2⟩, nx2, k2, s2⟩; have H2 := Lib.hid (And.intro nx2 (And.intro k2 s2)); clear nx2 k2 s2)
  obtain ⟨pb, hpb⟩ : ∃ b, b = w2.heap.size := ⟨_, rfl⟩;obtain ⟨X, hX⟩ : ∃ X, X = w2.alloc (.cells #[.slice none 0 0, .slice none 0 0, .int .i64 (1 + tg)] 44) := ⟨_, rfl⟩;rw [← hX, ← hpb];obtain ⟨K, hK⟩ : ∃ K : MdC, K = ⟨w.heap.size, rb, pb, ib, lb, 1 + tg⟩ := ⟨_, rfl⟩;have hX2 : Below w2.heap.size w2 X := by rw [hX]; exact (Below.refl _ _).alloc (Nat.le_refl _) _
  have k1 : Keep [ib] W w2 := ((Keep.of_below (S := [ib]) H1.out.2.2.2).trans H2.out.2.1 (fun x hx => .inl hx));have k1X : Keep [ib] W X := k1.trans (Keep.of_below (S := []) hX2) (by simp);have lt1 := H1.out.1.lt;have zr := hL_ H0.out.2.1;have er := H0.out.2.2.1;have M : MdS K w [] none 0 [] [] none 0 [] X := by
    subst hK;have hne : rb ≠ ib := by have := H1.out.2.1; omega
    refine ⟨H0.out.1.trans (k1X.below H0.out.1.size (by simp; omega)), H2.out.1.below hX2, (k1X.block _ zr (by simpa using hne)).trans H0.out.2.1, by rw [hX, hpb]; exact heap_alloc_new _ _, OwnS.nil _ _ _, OwnS.nil _ _ _, by simp, ?_, by simp, by simp⟩;have := H1.out.2.1;have := H1.out.2.2.1;have := H2.out.2.2;have := k1.size;simp only;omega
  have HM := Lib.hid (And.intro M hK);have bM : MdS K w [] none 0 [] [] none 0 [] X := M;clear M hX hpb hX2 k1 k1X zr er lt1 hD;go_upto_region 4 with (go_at_call 24; refine (next_some 3 (ib := ib) (lb := lb) (D := w.heap.size) (by have := HM.out.1.nx; rw [HM.out.2] at this; exact this) (by decide)).mono ?_; rintro e w3 ⟨n0, rfl, ⟨n1, n2⟩, nx3, k3, s3⟩; have M3 : MdS K w [] none 0 [] [] none 0 [] w3 := HM.out.1.next (by rw [HM.out.2]; exact nx3) (by rw [HM.out.2]; exact k3); have H3 := Lib.hid M3; clear M3 nx3 k3 s3 bM)
  obtain ⟨n, hn⟩ : ∃ n : Nat, (n : Int) = 1 + n0 := ⟨(1 + n0).toNat, by omega⟩;rw [← hn];have hn3 : 1 ≤ n ∧ n ≤ 3 := by omega
  clear hn n1 n2;go_wp2_with fail
  go_loopw [18] (fun i wx => ∃ (k : Nat) (chs : List Chn) (Ac : Option Addr) (cc : Nat) (fc : List Nat), k ≤ n ∧ i = .int .i64 k ∧ chs.length = k ∧ ChsOk chs ∧ MdS K w chs Ac cc fc [] none 0 [] wx) (fun i _ => n - (intOf i).toNat)
  case atStart => exact ⟨0, [], none, 0, [], Nat.zero_le _, rfl, rfl, (fun c hc => by cases hc), H3.out⟩
  case round =>
    obtain ⟨k, chs, Ac, cc, fc, hk, rfl, hcl, hok, hM⟩ := hrel;by_cases hlt : k < n
    · have HS := Lib.hid (And.intro hM (And.intro hok hcl));obtain ⟨A0, c0, l0, k0, hdr, hby, hln, hne, hdi, hdl, hap⟩ := hM.nx;rw [HM.out.2] at hdr hdi hdl hne hap;simp only at hdr hdi hdl hne hap;have hsp := hM.sp;have hsc := hM.sc;rw [HM.out.2] at hsp hsc;simp only at hsp hsc;obtain ⟨x0, hx0⟩ : ∃ x, x = draw l0 k0 30 := ⟨_, rfl⟩;obtain ⟨x1, hx1⟩ : ∃ x, x = draw l0 (k0 + 1) 4 := ⟨_, rfl⟩;obtain ⟨x2, hx2⟩ : ∃ x, x = draw l0 (k0 + 2) 40 := ⟨_, rfl⟩;have r0 := draw_range (l := l0) k0 (n := 30) (by decide);have r1 := draw_range (l := l0) (k0 + 1) (n := 4) (by decide);have r2 := draw_range (l := l0) (k0 + 2) (n := 40) (by decide);rw [← hx0] at r0;rw [← hx1] at r1;rw [← hx2] at r2;obtain ⟨C, hC⟩ : ∃ C : ApC, C = ⟨ib, lb, k0, A0, c0, l0, pb, 67, 3, k, Ac, cc, chcs chs, fc, chc ⟨x0, x1, 1 + x2⟩, #[.slice Ac k cc, .slice none 0 0, .int .i64 (1 + tg)], fun A c => #[.slice A (k + 1) c, .slice none 0 0, .int .i64 (1 + tg)], 44⟩ := ⟨_, rfl⟩;have O : ApOk C wr := by
        subst hC;refine ⟨hdr, by rw [← hcl]; exact hM.oc, ?_, fun e => (hsc _ e).2.1 (by simp), hsp.2.2.2.2.2.1, hsp.2.2.2.2.2.2, fun e => (hsc _ e).2.1 (by simp), fun e => (hsc _ e).2.1 (by simp), hne, fun h0 b off e => ?_, hby, hln⟩
        · have := hM.prt;rw [HM.out.2, hcl] at this;exact this
        · have := hap h0 b off e;exact ⟨by simp only; omega, by simp only; omega, fun hm => by have := (hsc b hm).1; omega⟩
      have HX := Lib.hid (And.intro hx0 (And.intro hx1 (And.intro hx2 (And.intro O hC))));have HD := Lib.hid (And.intro hap (And.intro hdi hdl));clear hx0 hx1 hx2 O hdr hby hln hne hdi hdl hap hsp hsc hM hok hcl;subst hC;go_upto_region 6 with fail
      refine wRS (σ := ApS) (by kernel_rfl) (by kernel_rfl) (fun sg jx vx _ => Md6V ib lb pb x0 x1 x2 k Ac cc sg jx vx) (fun sg ly wx => ApW ⟨ib, lb, k0, A0, c0, l0, pb, 67, 3, k, Ac, cc, chcs chs, fc, chc ⟨x0, x1, 1 + x2⟩, #[.slice Ac k cc, .slice none 0 0, .int .i64 (1 + tg)], fun A c => #[.slice A (k + 1) c, .slice none 0 0, .int .i64 (1 + tg)], 44⟩ 10 11 13 Md6Cnt wr sg ly wx) ⟨0, none, 0, 0⟩ ?_ ?_ ?_
      · exact HX.out.2.2.2.1.start (by simp [Md6Cnt])
      · simp only [AllFrom, Nat.zero_add, Nat.reduceAdd];refine ⟨?_, ?_, ?_, ?_, ?_, ?_, ?_, ?_, ?_, ?_, ?_, ?_, ?_, ?_, trivial⟩
        · refine sP_ fun sg ly a wx hl hd hW hF => ?_;have et4 := hF.old 4 (by kernel_rfl);simp [Act.eval] at et4;exact ⟨hW.other HX.out.2.2.2.1 _ (by decide) (by simp [Md6Cnt, upd]), .pointer (some ⟨pb, 0, none⟩), by go_simp, rfl⟩
        · refine sP_ fun sg ly a wx hl hd hW hF => ?_;simp [Region.binds] at hd;have et20 := hF.new 0 20 (by simp [hd]) rfl;simp [Md6V, Act.eval] at et20;have nS := hF.notYet 1 13 hl (by kernel_rfl);have hh := hW.hob;rw [if_neg (by simp [nS])] at hh;have cL := (cOH hh 0).trans rfl;have zL := hL_ hh;exact ⟨hW.other HX.out.2.2.2.1 _ (by decide) (by simp [Md6Cnt, upd]), _, by go_simp, rfl⟩
        · refine sP_ fun sg ly a wx hl hd hW hF => ?_;have et3 := hF.old 3 (by kernel_rfl);simp [Act.eval] at et3;exact ⟨hW.other HX.out.2.2.2.1 _ (by decide) (by simp [Md6Cnt, upd]), .func (.func 24) #[] #[.pointer (some ⟨ib, 0, none⟩), .pointer (some ⟨lb, 0, none⟩)], by go_simp, rfl⟩
        · refine sC_ fun sg ly a wx hl hd hW hF => ?_;simp [Region.binds] at hd;have et22 := hF.new 2 22 (by simp [hd]) rfl;simp [Md6V, Act.eval] at et22;have n5 := hF.notYet 3 5 hl (by kernel_rfl);have n7_5 := hF.notYet 3 5 hl (by kernel_rfl);have n7 := hF.notYet 5 7 n7_5 (by kernel_rfl);have hq := hW.next HX.out.2.2.2.1 (30) (by decide)
          rw [show Md6Cnt ly = 0 from by simp [Md6Cnt, hl, n5, n7]] at hq;refine ⟨24, #[.int .i64 (30), .pointer (some ⟨ib, 0, none⟩), .pointer (some ⟨lb, 0, none⟩)], by go_simp, ?_⟩;refine hq.mono ?_;rintro e w2 ⟨rfl, d2, k2, s2⟩;exact ⟨.int .i64 x0, sg, by rw [HX.out.1] <;> rfl, hW.call HX.out.2.2.2.1 _ (by decide) (by rw [show Md6Cnt (upd ly 3) = 1 from by simp [Md6Cnt, upd, n5, n7]]; exact d2) k2, rfl, fun _ _ _ h => h⟩
        · refine sP_ fun sg ly a wx hl hd hW hF => ?_;have et3 := hF.old 3 (by kernel_rfl);simp [Act.eval] at et3;exact ⟨hW.other HX.out.2.2.2.1 _ (by decide) (by simp [Md6Cnt, upd]), .func (.func 24) #[] #[.pointer (some ⟨ib, 0, none⟩), .pointer (some ⟨lb, 0, none⟩)], by go_simp, rfl⟩
        · refine sC_ fun sg ly a wx hl hd hW hF => ?_;simp [Region.binds] at hd;have et24 := hF.new 4 24 (by simp [hd]) rfl;simp [Md6V, Act.eval] at et24;have y3 : ly 3 = true := by simp [hd]
          have n7 := hF.notYet 5 7 hl (by kernel_rfl);have hq := hW.next HX.out.2.2.2.1 (4) (by decide)
          rw [show Md6Cnt ly = 1 from by simp [Md6Cnt, hl, y3, n7]] at hq;refine ⟨24, #[.int .i64 (4), .pointer (some ⟨ib, 0, none⟩), .pointer (some ⟨lb, 0, none⟩)], by go_simp, ?_⟩;refine hq.mono ?_;rintro e w2 ⟨rfl, d2, k2, s2⟩;exact ⟨.int .i64 x1, sg, by rw [HX.out.2.1] <;> rfl, hW.call HX.out.2.2.2.1 _ (by decide) (by rw [show Md6Cnt (upd ly 5) = 2 from by simp [Md6Cnt, upd, y3, n7]]; exact d2) k2, rfl, fun _ _ _ h => h⟩
        · refine sP_ fun sg ly a wx hl hd hW hF => ?_;have et3 := hF.old 3 (by kernel_rfl);simp [Act.eval] at et3;exact ⟨hW.other HX.out.2.2.2.1 _ (by decide) (by simp [Md6Cnt, upd]), .func (.func 24) #[] #[.pointer (some ⟨ib, 0, none⟩), .pointer (some ⟨lb, 0, none⟩)], by go_simp, rfl⟩
        · refine sC_ fun sg ly a wx hl hd hW hF => ?_;simp [Region.binds] at hd;have et26 := hF.new 6 26 (by simp [hd]) rfl;simp [Md6V, Act.eval] at et26;have y3 := hF.before 3 5 (by simp [hd]) (by kernel_rfl);have y5 : ly 5 = true := by simp [hd]
          have hq := hW.next HX.out.2.2.2.1 (40) (by decide)
          rw [show Md6Cnt ly = 2 from by simp [Md6Cnt, hl, y3, y5]] at hq;refine ⟨24, #[.int .i64 (40), .pointer (some ⟨ib, 0, none⟩), .pointer (some ⟨lb, 0, none⟩)], by go_simp, ?_⟩;refine hq.mono ?_;rintro e w2 ⟨rfl, d2, k2, s2⟩;exact ⟨.int .i64 x2, sg, by rw [HX.out.2.2.1] <;> rfl, hW.call HX.out.2.2.2.1 _ (by decide) (by rw [show Md6Cnt (upd ly 7) = 3 from by simp [Md6Cnt, upd, y3, y5]]; exact d2) k2, rfl, fun _ _ _ h => h⟩
        · refine sP_ fun sg ly a wx hl hd hW hF => ?_;simp [Region.binds] at hd;have et27 := hF.new 7 27 (by simp [hd]) rfl;simp [Md6V, Act.eval] at et27;have ew := IntWalk.i64_in (1 + x2) (by omega);exact ⟨hW.other HX.out.2.2.2.1 _ (by decide) (by simp [Md6Cnt, upd]), .int .i64 (1 + x2), by go_simp, rfl⟩
        · refine sP_ fun sg ly a wx hl hd hW hF => ?_;simp [Region.binds] at hd;have et23 := hF.new 3 23 (by simp [hd]) rfl;simp [Md6V, Act.eval] at et23;have et25 := hF.new 5 25 (by simp [hd]) rfl;simp [Md6V, Act.eval] at et25;have et28 := hF.new 8 28 (by simp [hd]) rfl;simp [Md6V, Act.eval] at et28;exact ⟨hW.other HX.out.2.2.2.1 _ (by decide) (by simp [Md6Cnt, upd]), .agg #[.int .i64 x0, .int .i64 x1, .int .i64 (1 + x2)], by go_simp, rfl⟩
        · refine sR_ fun sg ly a wx hl hd hW hF => ?_;simp [Region.binds] at hd;have et29 := hF.new 9 29 (by simp [hd]) rfl;simp [Md6V, Act.eval] at et29;refine ⟨_, wx.alloc (.cells #[.int .i64 x0, .int .i64 x1, .int .i64 (1 + x2)] 67), { sg with bs := wx.heap.size }, by go_simp, hW.build HX.out.2.2.2.1 (by decide) (by simp [Md6Cnt, upd]), rfl, ?_⟩;intro i u hi h;have i10 : i ≠ 10 := by rintro rfl; rw [hl] at hi; cases hi
          unfold Md6V at h ⊢;split at h <;> first | exact h | exact absurd rfl i10
        · intro sg ly a wx hl hd hW hF;simp [Region.binds] at hd;have et21 := hF.new 1 21 (by simp [hd]) rfl;simp [Md6V, Act.eval] at et21;have et30 := hF.new 10 30 (by simp [hd]) rfl;simp [Md6V, Act.eval] at et30;have nS := hF.notYet 11 13 hl (by kernel_rfl);have yB : ly 10 = true := by simp [hd]
          refine hW.at_append HX.out.2.2.2.1 (.tmp 21) (.tmp 30) 41 rfl iC _ 24 Try.underlying41 hC0 hC1 hC2 (show (0 : Nat) < 3 from by decide) hC3 rfl (by simpa [Act.eval] using et21) (by simpa [Act.eval] using et30) rfl (by simp [chc, Value.oneCell']) (by simp only; omega) (by omega) (by decide) (by simp [Md6Cnt, upd]) yB hl nS ?_;intro g c' w' h';refine ⟨{ sg with A := some ⟨g, 0, none⟩, c := c', g := g }, _, rfl, h', fun _ => rfl, ?_⟩;intro i u hi h;have i11 : i ≠ 11 := by rintro rfl; rw [hl] at hi; cases hi
          unfold Md6V at h ⊢;split at h <;> first | exact h | exact absurd rfl i11
        · refine sP_ fun sg ly a wx hl hd hW hF => ?_;have et4 := hF.old 4 (by kernel_rfl);simp [Act.eval] at et4;exact ⟨hW.other HX.out.2.2.2.1 _ (by decide) (by simp [Md6Cnt, upd]), .pointer (some ⟨pb, 0, none⟩), by go_simp, rfl⟩
        · refine sS_ rfl fun sg ly a wx hl hd hW hF => ?_;simp [Region.binds] at hd;have et32 := hF.new 12 32 (by simp [hd]) rfl;simp [Md6V, Act.eval] at et32;have et31 := hF.new 11 31 (by simp [hd]) rfl;simp [Md6V, Act.eval] at et31;have yA : ly 11 = true := by simp [hd]
          have hh := hW.hob;rw [if_neg (by simp [hl])] at hh;have cL := (cOH hh 0).trans rfl;have fL := fOH hh 0;have zL := hL_ hh;exact ⟨_, sg, .skip, by go_simp, .inl rfl, hW.store HX.out.2.2.2.1 (by decide) (by simp [Md6Cnt, upd]) 0 (fun _ _ => rfl) yA hl, fun _ _ _ h => h⟩
      intro sg af w4 hWW hF;obtain ⟨ff, hf, rfl⟩ := hF.lit;obtain ⟨o1, o2⟩ := hWW.own1 rfl;have hob4 := hWW.hob;simp only [List.length_cons, List.length_nil, Nat.reduceAdd, Nat.reduceLT, decide_true, if_true] at hob4;have M4 : MdS K w (chs ++ [⟨x0, x1, 1 + x2⟩]) sg.A sg.c [sg.g] [] none 0 [] w4 := by
        have h := HS.out.1;have e := HM.out.2;subst e;exact h.pushC hWW.kp ⟨A0, c0, l0, _, hWW.dr, HX.out.2.2.2.1.byt, HX.out.2.2.2.1.len, HX.out.2.2.2.1.ne, HD.out.2.1, HD.out.2.2, HD.out.1⟩ (by rw [HS.out.2.2]; exact o1) o2 (by rw [HS.out.2.2]; exact hob4)
      have H4 := Lib.hid M4;clear hf hF hWW o1 o2 hob4 M4;simp only [List.filterMap, List.foldl, List.setIfInBounds_toArray, List.set_cons_succ, List.set_cons_zero];go_wp2_with fail
      go_roundw;case measure => simp [intOf]; omega
      case rel =>
        refine ⟨k + 1, _, _, _, _, by omega, by go_num, by rw [List.length_append, HS.out.2.2]; rfl, fun c hc => ?_, H4.out⟩;rcases List.mem_append.1 hc with hc | hc
        · exact HS.out.2.1 c hc
        · rw [List.mem_singleton.1 hc]; simp only; omega
    · obtain rfl : k = n := by omega
      have HS := Lib.hid (And.intro hM (And.intro hok hcl));clear hM hok hcl;go_upto_region 9 with (go_at_call 24; refine (next_some 3 (ib := ib) (lb := lb) (D := w.heap.size) (by have := HS.out.1.nx; rw [HM.out.2] at this; exact this) (by decide)).mono ?_; rintro e w4 ⟨m0, rfl, ⟨m01, m02⟩, nx3, k3, s3⟩; have M_ := HS.out.1.next (w' := w4) (by rw [HM.out.2]; exact nx3) (by rw [HM.out.2]; exact k3); have M4 := Lib.hid M_; clear M_ nx3 k3 s3)
      obtain ⟨mm, hmm⟩ : ∃ n : Nat, (n : Int) = 1 + m0 := ⟨(1 + m0).toNat, by omega⟩;rw [← hmm];have hm3 : 1 ≤ mm ∧ mm ≤ 3 := by omega
      clear hmm m01 m02;go_wp2_with fail
      go_loopw [37] (fun i wx => ∃ (j : Nat) (bs : List BrX) (Ab : Option Addr) (cb : Nat) (fb : List Nat), j ≤ mm ∧ i = .int .i64 j ∧ bs.length = j ∧ BtsOk k bs ∧ MdS K w chs Ac cc fc bs Ab cb fb wx) (fun i _ => mm - (intOf i).toNat)
      case atStart => exact ⟨0, [], none, 0, [], Nat.zero_le _, rfl, rfl, (fun c hc => by cases hc), M4.out⟩
      case round =>
        obtain ⟨j, bs, Ab, cb, fb, hj, rfl, hbl, hok, hM⟩ := hrel;by_cases hlt : j < mm
        · have HT := Lib.hid (And.intro hM (And.intro hok hbl));clear hM hok hbl;go_upto_region 11 with (first
            | (go_at_call 24; have bb := M5; clear bb; refine (next_some k (ib := ib) (lb := lb) (D := w.heap.size) (by have := M5.out.nx; rw [HM.out.2] at this; exact this) (by omega)).mono ?_; rintro e w6 ⟨y, rfl, ⟨y1, y2⟩, nx3, k3, s3⟩; have M_ := M5.out.next (w' := w6) (by rw [HM.out.2]; exact nx3) (by rw [HM.out.2]; exact k3); have M6 := Lib.hid M_; clear M_ nx3 k3 s3)
            | (go_at_call 24; refine (next_some 256 (ib := ib) (lb := lb) (D := w.heap.size) (by have := HT.out.1.nx; rw [HM.out.2] at this; exact this) (by decide)).mono ?_; rintro e w5 ⟨x, rfl, ⟨x1, x2⟩, nx3, k3, s3⟩; have M_ := HT.out.1.next (w' := w5) (by rw [HM.out.2]; exact nx3) (by rw [HM.out.2]; exact k3); have M5 := Lib.hid M_; clear M_ nx3 k3 s3))
          obtain ⟨d, hd⟩ : ∃ d, d = 300 + 3 * x := ⟨_, rfl⟩;have hdb : 300 ≤ d ∧ d ≤ 1065 := by omega
          rw [← hd];obtain ⟨gp, hgp⟩ : ∃ b, b = w6.heap.size := ⟨_, rfl⟩;obtain ⟨bb, hbb⟩ : ∃ b, b = w6.heap.size + 1 := ⟨_, rfl⟩;obtain ⟨X6, hX6⟩ : ∃ X, X = (w6.alloc (.cells #[.int .i64 y] 3)).alloc (.cells #[.int .i64 d, .slice (some ⟨gp, 0, none⟩) 1 1] 63) := ⟨_, rfl⟩;rw [← hbb, ← hgp, ← hX6];have g1 : X6.heap[gp]? = some (.cells #[.int .i64 y] 3 (0, 0)) := by rw [hX6, hgp]; exact hA_ (heap_alloc_new _ _) _
          have g2 : X6.heap[bb]? = some (.cells #[.int .i64 d, .slice (some ⟨gp, 0, none⟩) 1 1] 63 (0, 0)) := by
            rw [hX6, hbb];have := heap_alloc_new (w6.alloc (.cells #[.int .i64 y] 3)) (.cells #[.int .i64 d, .slice (some ⟨gp, 0, none⟩) 1 1] 63)
            rwa [World.size_alloc] at this
          have b6 : Below w6.heap.size w6 X6 := by rw [hX6]; exact ((Below.refl _ _).alloc (Nat.le_refl _) _).alloc (by simp) _
          have A1 := M6.out.fresh (x := gp) (by omega);have A2 := M6.out.fresh (x := bb) (by omega);have hne : gp ≠ bb := by omega
          have M7 := Lib.hid (M6.out.below b6);have hib2 : gp ≠ ib ∧ bb ≠ ib := by have := M6.out.nx.lt; rw [HM.out.2] at this; simp only at this; omega
          have HG := Lib.hid (And.intro g1 (And.intro g2 (And.intro A1 (And.intro A2 hne))));clear g1 g2 A1 A2 hne b6 hX6 hgp hbb hd;go_upto_region 12 with (go_at_call 24; refine (next_some k (ib := ib) (lb := lb) (D := w.heap.size) (by have := M7.out.nx; rw [HM.out.2] at this; exact this) (by omega)).mono ?_; rintro e w8 ⟨z, rfl, ⟨z1, z2⟩, nx3, k3, s3⟩; have M_ := M7.out.next (w' := w8) (by rw [HM.out.2]; exact nx3) (by rw [HM.out.2]; exact k3); have M8 := Lib.hid M_; have HK8 := Lib.hid k3; clear M_ nx3 k3 s3)
          have g1 := (HK8.out.block _ (hL_ HG.out.1) (by simpa using hib2.1)).trans HG.out.1;have g2 := (HK8.out.block _ (hL_ HG.out.2.1) (by simpa using hib2.2)).trans HG.out.2.1;have c0 : w8.cell? ⟨bb, 0, none⟩ = some (.int .i64 d) := (cOH g2 0).trans rfl;have c1 : w8.cell? ⟨bb, 1, none⟩ = some (.slice (some ⟨gp, 0, none⟩) 1 1) := (cOH g2 1).trans rfl;have cg : w8.cell? ⟨gp, 0, none⟩ = some (.int .i64 y) := (cOH g1 0).trans rfl;have zb := hL_ g2;have zg := hL_ g1;have op : OwnS w8 3 1 (some ⟨gp, 0, none⟩) 1 1 (ints [y]) [gp] := ⟨rfl, .inr ⟨gp, _, rfl, rfl, g1, Nat.le_refl _, by decide, rfl, fun i u hu => by simpa [ints] using hu⟩⟩;have eP : w8.heap[pb]? = some (.cells #[.slice Ac k cc, .slice Ab j cb, .int .i64 (1 + tg)] 44 (0, 0)) := by
            have := M8.out.prt;rw [HM.out.2, HS.out.2.2, HT.out.2.2] at this;exact this
          have hpn : pb ≠ gp ∧ pb ≠ bb := by
            have h1 := HG.out.2.2.1.2.1;have h2 := HG.out.2.2.2.1.2.1;rw [HM.out.2] at h1 h2;simp at h1 h2;omega
          have HP := Lib.hid (And.intro op (And.intro g2 (And.intro eP g1)));clear op g1 g2 eP;by_cases hzy : z = y
          · subst hzy;go_upto_region 14 with fail
            have MQ := M8.out;have oq := HP.out.1;have awq := HG.out.2.2.1;have hbq := HP.out.2.1;have epq := HP.out.2.2.1;clear c0 c1 cg zb zg;have c0 : w8.cell? ⟨bb, 0, none⟩ = some (.int .i64 d) := (cOH hbq 0).trans rfl;have c1 : w8.cell? ⟨bb, 1, none⟩ = some (.slice (some ⟨gp, 0, none⟩) 1 1) := (cOH hbq 1).trans rfl;have p1 : w8.cell? ⟨pb, 1, none⟩ = some (.slice Ab j cb) := (cOH epq 1).trans rfl;have zb := hL_ hbq;have zp := hL_ epq;have OB : OwnS w8 63 2 Ab j cb (brxs bs) fb := by have := MQ.ob; rw [HT.out.2.2] at this; exact this
            have npb : pb ∉ fb := fun hm => by have := (MQ.sb _ hm).2; rw [HM.out.2] at this; simp at this
            have HQ := Lib.hid (And.intro MQ (And.intro oq (And.intro awq (And.intro epq (And.intro OB npb)))));clear MQ oq awq hbq epq OB npb
            go_wp2_with (at_builtin
                         refine wpList_append_S (size := 2) rfl (.tmp 64) (.tmp 66) 42 rfl iB _ 32 Try.underlying42 hB0 hB1 hB2 (by decide) hB3 rfl (A := Ab) (n := j) (c := cb) (xs := brxs bs) (fp := fb) (by simp [Act.eval]) ⟨w8.heap.size, 0, none⟩ (by simp [Act.eval]) [.int .i64 d, .slice (some ⟨gp, 0, none⟩) 1 1] (HQ.out.2.2.2.2.1.alloc _) rfl ?_ (by simp [Value.oneCell']) (by omega) (by omega) ?_
                         · intro i v hv;rw [show (⟨w8.heap.size, 0, none⟩ : Addr).add i = ⟨w8.heap.size, i, none⟩ from by simp [Addr.add]; omega, World.cell?_alloc_new];simpa using hv
                         intro g c' w9 q1 q2 q3 q4;have hb1 : w9.heap[pb]? = some (.cells #[.slice Ac k cc, .slice Ab j cb, .int .i64 (1 + tg)] 44 (0, 0)) := (q4.block pb (by simp; omega) HQ.out.2.2.2.2.2).trans (hA_ HQ.out.2.2.2.1 _);have d1 : w9.cell? ⟨pb, 1, none⟩ = some (.slice Ab j cb) := (cOH hb1 1).trans rfl;have e1 := fOH hb1 1;have zq := hL_ hb1;have HR := Lib.hid (And.intro q1 (And.intro q2 (And.intro q4 hb1)));clear q1 q2 q3 q4 hb1)
            go_roundw;case measure => simp [intOf]; omega
            case rel =>
              obtain ⟨R1, R2, R3, R4⟩ := HR.out;have ngp : pb ≠ g := fun e => by
                rcases R2 with e2 | e2
                · exact HQ.out.2.2.2.2.2 (e ▸ e2)
                · simp at e2; omega
              have kA : Keep (pb :: fb) w8 (w9.setCell ⟨pb, 1, none⟩ (.slice (some ⟨g, 0, none⟩) (j + 1) c')) := (((Keep.refl (pb :: fb) w8).alloc _).trans R3 (fun x hx => .inl (by simp [hx]))).setCell (.inl (by simp)) _;have M9 : MdS K w chs Ac cc fc (bs ++ [⟨d, [z], some ⟨gp, 0, none⟩, 1⟩]) (some ⟨g, 0, none⟩) c' [g] (w9.setCell ⟨pb, 1, none⟩ (.slice (some ⟨g, 0, none⟩) (j + 1) c')) := by
                refine HQ.out.1.pushB (by rw [HM.out.2]; exact kA) (by rw [HT.out.2.2]; exact R1.setCell (by simpa using ngp) _) ?_ ?_ gp rfl HQ.out.2.1 HQ.out.2.2.1
                · rcases R2 with e2 | e2
                  · exact .inl e2
                  · exact .inr (by simp at e2; omega)
                · rw [HM.out.2, HS.out.2.2, HT.out.2.2];exact hS_ R4 1 _
              refine ⟨j + 1, _, _, _, _, by omega, by go_num, by rw [List.length_append, HT.out.2.2]; rfl, fun b hb => ?_, M9⟩;rcases List.mem_append.1 hb with hb | hb
              · exact HT.out.2.1 b hb
              · rw [List.mem_singleton.1 hb];exact ⟨hdb.1, hdb.2, .inl ⟨z, rfl, y1, y2⟩⟩
          · have f1 := fOH HP.out.2.1 1
            go_upto_region 14 with (at_builtin
                                    refine wpList_append_S (size := 1) rfl (.tmp 58) (.tmp 60) 56 rfl iI _ 8 Try.underlying56 hI0 hI1 hI2 (by decide) hI3 rfl (A := some ⟨gp, 0, none⟩) (n := 1) (c := 1) (xs := ints [y]) (fp := [gp]) (by simp [Act.eval]) ⟨w8.heap.size, 0, none⟩ (by simp [Act.eval]) [.int .i64 z] (HP.out.1.alloc _) rfl ?_ (by simp [Value.oneCell']) (by omega) (by omega) ?_
                                    · intro i v hv;rw [show (⟨w8.heap.size, 0, none⟩ : Addr).add i = ⟨w8.heap.size, i, none⟩ from by simp [Addr.add]; omega, World.cell?_alloc_new];simpa using hv
                                    intro gq cq wa q1 q2 q3 q4;have hb1 : wa.heap[bb]? = some (.cells #[.int .i64 d, .slice (some ⟨gp, 0, none⟩) 1 1] 63 (0, 0)) := (q4.block bb (by simp; omega) (by simp; exact fun e => HG.out.2.2.2.2 e.symm)).trans (hA_ HP.out.2.1 _);have d1 : wa.cell? ⟨bb, 1, none⟩ = some (.slice (some ⟨gp, 0, none⟩) 1 1) := (cOH hb1 1).trans rfl;have e1 := fOH hb1 1;have zq := hL_ hb1;have HA := Lib.hid (And.intro q1 (And.intro q2 (And.intro q4 hb1)));clear q1 q2 q3 q4 hb1)
            obtain ⟨wq, hwq⟩ : ∃ x, x = wa.setCell ⟨bb, 1, none⟩ (.slice (some ⟨gq, 0, none⟩) 2 cq) := ⟨_, rfl⟩;rw [← hwq];have kq : Keep [gp, bb] w8 wq := by rw [hwq]; exact (((Keep.refl [gp, bb] w8).alloc _).trans HA.out.2.2.1 (fun x hx => .inl (by simp at hx; simp [hx]))).setCell (.inl (by simp)) _
            have MQ := M8.out.away kq (fun x hx => by
              rcases List.mem_cons.1 hx with rfl | hx
              · exact HG.out.2.2.1
              · rw [List.mem_singleton.1 hx]; exact HG.out.2.2.2.1)
            have hgqb : bb ≠ gq := by
              rcases HA.out.2.1 with e | e
              · rw [List.mem_singleton.1 e]; exact fun e => HG.out.2.2.2.2 e.symm
              · simp at e; omega
            have oq : OwnS wq 3 1 (some ⟨gq, 0, none⟩) 2 cq (ints [y, z]) [gq] := by rw [hwq]; exact HA.out.1.setCell (by simpa using hgqb) _
            have awq : Away K fc bs fb gq := by
              rcases HA.out.2.1 with e | e
              · rw [List.mem_singleton.1 e]; exact HG.out.2.2.1
              · exact M8.out.fresh (by simp at e; omega)
            have hbq : wq.heap[bb]? = some (.cells #[.int .i64 d, .slice (some ⟨gq, 0, none⟩) 2 cq] 63 (0, 0)) := by rw [hwq]; exact hS_ HA.out.2.2.2 1 _
            have epq := (kq.block _ (hL_ HP.out.2.2.1) (by simp; exact hpn)).trans HP.out.2.2.1;clear c0 c1 cg zb zg f1 d1 e1 zq hgqb hwq kq;have c0 : wq.cell? ⟨bb, 0, none⟩ = some (.int .i64 d) := (cOH hbq 0).trans rfl;have c1 : wq.cell? ⟨bb, 1, none⟩ = some (.slice (some ⟨gq, 0, none⟩) 2 cq) := (cOH hbq 1).trans rfl;have p1 : wq.cell? ⟨pb, 1, none⟩ = some (.slice Ab j cb) := (cOH epq 1).trans rfl;have zb := hL_ hbq;have zp := hL_ epq;have OB : OwnS wq 63 2 Ab j cb (brxs bs) fb := by have := MQ.ob; rw [HT.out.2.2] at this; exact this
            have npb : pb ∉ fb := fun hm => by have := (MQ.sb _ hm).2; rw [HM.out.2] at this; simp at this
            have HQ := Lib.hid (And.intro MQ (And.intro oq (And.intro awq (And.intro epq (And.intro OB npb)))));clear MQ oq awq hbq epq OB npb
            go_wp2_with (at_builtin
                         refine wpList_append_S (size := 2) rfl (.tmp 64) (.tmp 66) 42 rfl iB _ 32 Try.underlying42 hB0 hB1 hB2 (by decide) hB3 rfl (A := Ab) (n := j) (c := cb) (xs := brxs bs) (fp := fb) (by simp [Act.eval]) ⟨wq.heap.size, 0, none⟩ (by simp [Act.eval]) [.int .i64 d, .slice (some ⟨gq, 0, none⟩) 2 cq] (HQ.out.2.2.2.2.1.alloc _) rfl ?_ (by simp [Value.oneCell']) (by omega) (by omega) ?_
                         · intro i v hv;rw [show (⟨wq.heap.size, 0, none⟩ : Addr).add i = ⟨wq.heap.size, i, none⟩ from by simp [Addr.add]; omega, World.cell?_alloc_new];simpa using hv
                         intro g c' w9 q1 q2 q3 q4;have hb1 : w9.heap[pb]? = some (.cells #[.slice Ac k cc, .slice Ab j cb, .int .i64 (1 + tg)] 44 (0, 0)) := (q4.block pb (by simp; omega) HQ.out.2.2.2.2.2).trans (hA_ HQ.out.2.2.2.1 _);have d1 : w9.cell? ⟨pb, 1, none⟩ = some (.slice Ab j cb) := (cOH hb1 1).trans rfl;have e1 := fOH hb1 1;have zq := hL_ hb1;have HR := Lib.hid (And.intro q1 (And.intro q2 (And.intro q4 hb1)));clear q1 q2 q3 q4 hb1)
            go_roundw;case measure => simp [intOf]; omega
            case rel =>
              obtain ⟨R1, R2, R3, R4⟩ := HR.out;have ngp : pb ≠ g := fun e => by
                rcases R2 with e2 | e2
                · exact HQ.out.2.2.2.2.2 (e ▸ e2)
                · simp at e2; omega
              have kA : Keep (pb :: fb) wq (w9.setCell ⟨pb, 1, none⟩ (.slice (some ⟨g, 0, none⟩) (j + 1) c')) := (((Keep.refl (pb :: fb) wq).alloc _).trans R3 (fun x hx => .inl (by simp [hx]))).setCell (.inl (by simp)) _;have M9 : MdS K w chs Ac cc fc (bs ++ [⟨d, [y, z], some ⟨gq, 0, none⟩, cq⟩]) (some ⟨g, 0, none⟩) c' [g] (w9.setCell ⟨pb, 1, none⟩ (.slice (some ⟨g, 0, none⟩) (j + 1) c')) := by
                refine HQ.out.1.pushB (by rw [HM.out.2]; exact kA) (by rw [HT.out.2.2]; exact R1.setCell (by simpa using ngp) _) ?_ ?_ gq rfl HQ.out.2.1 HQ.out.2.2.1
                · rcases R2 with e2 | e2
                  · exact .inl e2
                  · exact .inr (by simp at e2; omega)
                · rw [HM.out.2, HS.out.2.2, HT.out.2.2];exact hS_ R4 1 _
              refine ⟨j + 1, _, _, _, _, by omega, by go_num, by rw [List.length_append, HT.out.2.2]; rfl, fun b hb => ?_, M9⟩;rcases List.mem_append.1 hb with hb | hb
              · exact HT.out.2.1 b hb
              · rw [List.mem_singleton.1 hb];exact ⟨hdb.1, hdb.2, .inr ⟨y, z, rfl, fun e => hzy e.symm, y1, y2, z1, z2⟩⟩
        · obtain rfl : j = mm := by omega
          have gp := hM.prt;rw [HM.out.2, HS.out.2.2, hbl] at gp;have gr := hM.res;rw [HM.out.2] at gr;simp only at gp gr;have c0 := (cOH gp 0).trans rfl;have c1 := (cOH gp 1).trans rfl;have c2 := (cOH gp 2).trans rfl;have d0 := (cOH gr 0).trans rfl;have d1 := (cOH gr 1).trans rfl;have d2 := (cOH gr 2).trans rfl;have f0 := fOH gr 0;have f1 := fOH gr 1;have f2 := fOH gr 2;have zp := hL_ gp;have zr := hL_ gr;have HT := Lib.hid (And.intro hM (And.intro hok (And.intro hbl gr)));clear gp gr hM hok hbl;go_wp2_with fail
          have hh := st3_heap' HT.out.2.2.2 (.slice Ac k cc) (.slice Ab j cb) (.int .i64 (1 + tg));have k0 := cOH hh 0;have k1 := cOH hh 1;have k2 := cOH hh 2;refine bodyPost_ret (v := .agg #[.slice Ac k cc, .slice Ab j cb, .int .i64 (1 + tg)]) (by simp [results, Try.results10, go_sem, k0, k1, k2]) rfl ?_;obtain ⟨w', hw'⟩ : ∃ x, x = ((wr.setCell ⟨rb, 0, none⟩ (.slice Ac k cc)).setCell ⟨rb, 1, none⟩ (.slice Ab j cb)).setCell ⟨rb, 2, none⟩ (.int .i64 (1 + tg)) := ⟨_, rfl⟩;rw [← hw'];have kR : Keep [K.rb] wr w' := by rw [hw', HM.out.2]; exact (((Keep.refl _ _).setCell (.inl (by simp)) _).setCell (.inl (by simp)) _).setCell (.inl (by simp)) _
          have PB := HT.out.1.prtB kR;have hb0 := HT.out.1.bel.trans (kR.below HT.out.1.lo (fun x hx => by rw [List.mem_singleton.1 hx]; exact HT.out.1.sp.1));rw [HM.out.2] at hb0 PB;refine ⟨Ac, cc, Ab, cb, ⟨chs, bs.map BrX.b, 1 + tg⟩, ?_, ⟨?_, ?_, ?_, HS.out.2.1, ?_⟩, PB, hb0⟩
          · simp only [prtV, List.length_map, HS.out.2.2, HT.out.2.2.1]
          · simp only; omega
          · simp only [HS.out.2.2]; exact hn3
          · simp only [List.length_map, HT.out.2.2.1]; exact hm3
          · intro b hb;obtain ⟨x, hx, rfl⟩ := List.mem_map.1 hb;simp only [HS.out.2.2, BrX.b];exact HT.out.2.1 x hx
end Go.Proofs.Ytalcinepeofmcaa
namespace Go.Proofs.Ytalcinepeofmcaa
open Go Go.RowKit Sp
def DsW (ib lb k0 : Nat) (A0 : Option Addr) (c0 : Nat) (l0 : List Int) (opA opS : Nat) (cnt : (Nat → Bool) → Nat) (zero val : Array Value) (t : TypeId) (W0 : World) (s : Nat) (l : Nat → Bool) (w : World) : Prop :=
  Keep [ib] W0 w ∧ DrawSt w ib lb A0 c0 l0 (k0 + cnt l) ∧ (l opA = true → w.heap[s]? = some (.cells (if l opS then val else zero) t (0, 0)) ∧ W0.heap.size ≤ s)
section
variable {ib lb k0 : Nat} {A0 : Option Addr} {c0 : Nat} {l0 : List Int} {opA opS : Nat} {cnt : (Nat → Bool) → Nat} {zero val : Array Value} {t : TypeId} {W0 w w' : World} {s : Nat} {l : Nat → Bool}
theorem DsW.start (h : DrawSt W0 ib lb A0 c0 l0 k0) (hc : cnt (fun _ => false) = 0) : DsW ib lb k0 A0 c0 l0 opA opS cnt zero val t W0 s (fun _ => false) W0.drew :=
  ⟨(Keep.refl _ _).drew, by rw [hc]; exact h.keep (S := []) ((Keep.refl _ _).drew) (by simp) (by simp) (by simp), fun h => by cases h⟩
theorem DsW.call (H : DsW ib lb k0 A0 c0 l0 opA opS cnt zero val t W0 s l w) (hz : ib < W0.heap.size) (i : Nat) (hi : i ≠ opA ∧ i ≠ opS) (hd : DrawSt w' ib lb A0 c0 l0 (k0 + cnt (upd l i))) (hk : Keep [ib] w w') : DsW ib lb k0 A0 c0 l0 opA opS cnt zero val t W0 s (upd l i) w' := by
  refine ⟨H.1.trans hk (fun x hx => .inl hx), hd, ?_⟩;rw [upd_ne hi.1, upd_ne hi.2];exact fun e => ⟨(hk.block _ (hL_ (H.2.2 e).1) (by have := (H.2.2 e).2; simp; omega)).trans (H.2.2 e).1, (H.2.2 e).2⟩
theorem DsW.other (H : DsW ib lb k0 A0 c0 l0 opA opS cnt zero val t W0 s l w) (i : Nat) (hi : i ≠ opA ∧ i ≠ opS) (hc : cnt (upd l i) = cnt l) : DsW ib lb k0 A0 c0 l0 opA opS cnt zero val t W0 s (upd l i) w := by
  refine ⟨H.1, by rw [hc]; exact H.2.1, ?_⟩;rw [upd_ne hi.1, upd_ne hi.2];exact H.2.2
theorem DsW.next (H : DsW ib lb k0 A0 c0 l0 opA opS cnt zero val t W0 s l w) (hb : Bytes l0) (hl : l0.length ≤ 9223372036854775806) (hne : ib ≠ lb) (hap : 0 < l0.length → ∀ b off, A0 = some ⟨b, off, none⟩ → b ≠ ib) (m : Int) (hm : 0 < m ∧ m ≤ 1000) :
    Calls Try.prog 24 #[.int .i64 m, .pointer (some ⟨ib, 0, none⟩), .pointer (some ⟨lb, 0, none⟩)] w (NextPost w ib lb A0 c0 l0 (k0 + cnt l) m) :=
  next_any ib lb A0 c0 l0 (k0 + cnt l) m w H.2.1 hb hl hne hap hm
theorem DsW.alloc (H : DsW ib lb k0 A0 c0 l0 opA opS cnt zero val t W0 s l w) (hS : l opS = false) (hc : cnt (upd l opA) = cnt l) (hn : opA ≠ opS) : DsW ib lb k0 A0 c0 l0 opA opS cnt zero val t W0 w.heap.size (upd l opA) (w.alloc (.cells zero t)) := by
  refine ⟨H.1.alloc _, by rw [hc]; exact H.2.1.keep (S := []) ((Keep.refl _ _).alloc _) (by simp) (by simp) (by simp), fun _ => ⟨?_, H.1.size⟩⟩;rw [upd_ne hn, hS, if_neg (by simp)];exact heap_alloc_new w _
theorem DsW.store (H : DsW ib lb k0 A0 c0 l0 opA opS cnt zero val t W0 s l w) (hz : ib < W0.heap.size) (hA : l opA = true) (hS : l opS = false) (hc : cnt (upd l opS) = cnt l) (hk : Keep [s] w w') (hh : w'.heap[s]? = some (.cells val t (0, 0))) (hn : opA ≠ opS)
    (hlb : lb < W0.heap.size := by omega) (hap : 0 < l0.length → ∀ b off, A0 = some ⟨b, off, none⟩ → b < W0.heap.size := by assumption) : DsW ib lb k0 A0 c0 l0 opA opS cnt zero val t W0 s (upd l opS) w' := by
  have hs := (H.2.2 hA).2;refine ⟨H.1.trans hk (fun x hx => .inr (by rw [List.mem_singleton.1 hx]; exact hs)), by rw [hc]; exact H.2.1.keep hk (by simp; omega) (by simp; omega) (fun h0 b off e => by have := hap h0 b off e; simp; omega), fun _ => ⟨?_, hs⟩⟩;rw [upd_eq, if_pos rfl];exact hh
end
end Go.Proofs.Ytalcinepeofmcaa
