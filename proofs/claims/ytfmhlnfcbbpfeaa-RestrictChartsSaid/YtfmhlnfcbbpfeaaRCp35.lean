/- The walk of RestrictCharts (printed by wip/tools/chm.py). -/
import Derived.Test.YtfmhlnfcbbpfeaaRCp34
import Derived.Test.YtfmhlnfcbbpfeaaRCp25
set_option linter.unusedVariables false
namespace Go.Proofs.Ytfmhlnfcbbpfeaa
open Go Go.RowKit Go.Lib Sp
set_option linter.unusedVariables false
set_option linter.unusedSimpArgs false

set_option maxRecDepth 100000 in
set_option maxHeartbeats 4000000 in
theorem charts_law (A1 : Option Addr) (c1 : Nat) (l1 : List Int) (A2 : Option Addr) (c2 : Nat) (l2 : List Int) (A3 : Option Addr) (c3 : Nat) (l3 : List Int) (A4 : Option Addr) (c4 : Nat) (l4 : List Int) (A5 : Option Addr) (c5 : Nat) (l5 : List Int) (w : World)
    (hr1 : Rd w 1 A1 l1.length (byts l1)) (hl1 : Bytes l1) (hm1 : l1.length ≤ 9223372036854775800) (hr2 : Rd w 1 A2 l2.length (byts l2)) (hl2 : Bytes l2) (hm2 : l2.length ≤ 9223372036854775800) (hr3 : Rd w 1 A3 l3.length (byts l3)) (hl3 : Bytes l3) (hm3 : l3.length ≤ 9223372036854775800) (hc3 : l3.length ≤ c3 ∧ c3 ≤ 9223372036854775807)
    (hr4 : Rd w 1 A4 l4.length (byts l4)) (hl4 : Bytes l4) (hm4 : l4.length ≤ 9223372036854775800) (hr5 : Rd w 1 A5 l5.length (byts l5)) (hl5 : Bytes l5) (hm5 : l5.length ≤ 9223372036854775800) (hc5 : l5.length ≤ c5 ∧ c5 ≤ 9223372036854775807) :
    Calls Try.prog 12 #[.slice A1 l1.length c1, .slice A2 l2.length c2, .slice A3 l3.length c3, .slice A4 l4.length c4, .slice A5 l5.length c5] w fun e w' => e = .returned (.bool true) ∧ Below w.heap.size w w' := by
  have hn5 : A5 = none → l5.length = 0 := fun h => by
    rcases Nat.eq_zero_or_pos l5.length with h0 | h0
    · exact h0
    · obtain ⟨b, off, e, _⟩ := hr5.2 h0; rw [h] at e; cases e
  obtain ⟨iI, hI0, hI1, hI2, hI3⟩ := info_parts info_int
  have H0 := Lib.hid (And.intro hr1 (And.intro hl1 (And.intro hr2 (And.intro hl2 (And.intro hr3 hl3)))))
  have H04 := Lib.hid (And.intro hr4 (And.intro hl4 (And.intro hr5 (And.intro hl5 hn5))))
  clear hr1 hl1 hr2 hl2 hr3 hl3 hr4 hl4 hr5 hl5 hn5
  go_enter Try.func12, Try.ntmps12
  go_wp2_with fail
  refine (Made_any A1 c1 l1 w H0.out.1 H0.out.2.1 (by omega)).mono ?_
  rintro e w1 ⟨As, cs, rfl, hp1, b1⟩
  obtain ⟨p, hp⟩ : ∃ p, p = madeP l1 := ⟨_, rfl⟩
  rw [← hp] at hp1 ⊢
  have hck : checkS p = 0 := by rw [hp]; exact made_check' l1
  have HCK := Lib.hid hck
  clear hp hck
  go_upto_region 2 with fail
  obtain ⟨W1, hW1⟩ : ∃ W, W = w1.alloc (.cells #[.slice As p.steps.length cs, .int .i64 p.hold, .int .i64 p.calm, .int .i64 p.notice, .int .i64 p.grace] 25) := ⟨_, rfl⟩
  obtain ⟨pb, hpb⟩ : ∃ pb, pb = w1.heap.size := ⟨_, rfl⟩
  have hph : W1.heap[pb]? = some (.cells #[.slice As p.steps.length cs, .int .i64 p.hold, .int .i64 p.calm, .int .i64 p.notice, .int .i64 p.grace] 25 (0, 0)) := by rw [hW1, hpb]; exact heap_alloc_new _ _
  have b1' : Below w1.heap.size w1 W1 := by rw [hW1]; exact (Below.refl _ _).alloc (Nat.le_refl _) _
  have bW1 : Below w.heap.size w W1 := b1.trans (b1'.mono b1.size)
  have kd := Drawn_some w.heap.size A2 c2 l2 W1 (H0.out.2.2.1.below bW1) H0.out.2.2.2.1 (by omega) bW1.size (fun h0 b off e => H0.out.2.2.1.lt' h0 e)
  have a1 : 0 < p.steps.length → ∀ b off, As = some ⟨b, off, none⟩ → b < w1.heap.size := fun h0 b off e => hp1.2.2.lt' h0 e
  have hpV : PolV W1 As cs p := ⟨hp1.1, hp1.2.1, hp1.2.2.below b1'⟩
  have hps : w1.heap.size ≤ W1.heap.size ∧ pb < W1.heap.size := ⟨b1'.size, heap_lt hph⟩
  have H1 := Lib.hid (And.intro hph (And.intro hpV (And.intro a1 (And.intro hps (And.intro bW1 kd)))))
  rw [← hW1, ← hpb]
  clear hW1 hpb hph b1' bW1 kd a1 hpV hps hp1 b1
  go_wp2_with fail
  refine H1.out.2.2.2.2.2.mono ?_
  rintro e w2 ⟨ibm, lbm, rfl, nm, m1, m2, bm⟩
  have bW2 : Below w.heap.size w w2 := H1.out.2.2.2.2.1.trans (bm.mono H1.out.2.2.2.2.1.size)
  have kd := Drawn_some w.heap.size A4 c4 l4 w2 (H04.out.1.below bW2) H04.out.2.1 (by omega) bW2.size (fun h0 b off e => H04.out.1.lt' h0 e)
  have H2 := Lib.hid (And.intro nm (And.intro m1 (And.intro m2 (And.intro bm (And.intro bW2 kd)))))
  clear nm m1 m2 bm bW2 kd
  go_wp2_with fail
  refine H2.out.2.2.2.2.2.mono ?_
  rintro e w3 ⟨ibr, lbr, rfl, nr, m1, m2, br⟩
  go_upto_region 4 with fail
  obtain ⟨W3, hW3⟩ : ∃ W, W = w3.alloc (.cells #[fnAt ibr lbr] 128) := ⟨_, rfl⟩
  obtain ⟨rb, hrb⟩ : ∃ rb, rb = w3.heap.size := ⟨_, rfl⟩
  have b3 : Below w3.heap.size w3 W3 := by rw [hW3]; exact (Below.refl _ _).alloc (Nat.le_refl _) _
  have hrc : W3.cell? ⟨rb, 0, none⟩ = some (fnAt ibr lbr) := by rw [hW3, hrb]; exact cell_new_one _ _ _
  have b23 : Below w2.heap.size w2 W3 := br.trans (b3.mono br.size)
  have b13 : Below W1.heap.size W1 W3 := H2.out.2.2.2.1.trans (b23.mono H2.out.2.2.2.1.size)
  have lm := H2.out.1.lt
  have lr := nr.lt
  have hz := H1.out.2.2.2.1
  have hwz := H1.out.2.2.2.2.1.size
  have E3 : ChE ⟨w.heap.size, pb, ibm, lbm, ibr, lbr, rb, As, cs, p, A3, c3, l3, none, 0, []⟩ W3 := by
    refine ⟨(b13.block _ (heap_lt H1.out.1)).trans H1.out.1, ⟨H1.out.2.1.1, H1.out.2.1.2.1, H1.out.2.1.2.2.below b13⟩, H0.out.2.2.2.2.1.below (H1.out.2.2.2.2.1.trans (b13.mono hwz)), Rd.nil _ _ _, H2.out.1.below b23, nr.below b3, hrc, ?_, ?_, ?_, ?_⟩
    · have := H2.out.2.1; have := H2.out.2.2.1; simp only; omega
    · intro h0 b off e; have := H1.out.2.2.1 h0 b off e; have := H2.out.2.1; simp only; omega
    · intro h0 b off e; have := H0.out.2.2.2.2.1.lt' h0 e; have := H2.out.2.1; simp only; omega
    · intro h0; simp at h0
  obtain ⟨c0, hc0⟩ : ∃ c0 : ChC, c0 = ⟨w.heap.size, pb, ibm, lbm, ibr, lbr, rb, As, cs, p, A3, c3, l3, none, 0, []⟩ := ⟨_, rfl⟩
  rw [← hc0] at E3
  have HE := Lib.hid (And.intro E3 (And.intro (H1.out.2.2.2.2.1.trans (b13.mono hwz)) (show w.heap.size ≤ ibm ∧ w.heap.size ≤ ibr ∧ ibm < W3.heap.size ∧ ibr < W3.heap.size from by have := b3.size; have := b23.size; have := H2.out.2.1; omega)))
  have HC := Lib.hid hc0
  have kn : Calls Try.prog 114 #[.int .i64 4, .pointer (some ⟨ibm, 0, none⟩), .pointer (some ⟨lbm, 0, none⟩)] W3 (SomePost w.heap.size W3 ibm lbm 4) := next_some 4 (H2.out.1.below b23) (by decide)
  have HK := Lib.hid kn
  rw [← hW3, ← hrb]
  clear hW3 hrb b3 hrc b23 b13 lm lr hz hwz E3 kn hc0 nr m1 m2 br
  go_upto_region 5 with fail
  go_cut [15] (fun v wx => ∃ wn : Nat, v = .int .i64 wn ∧ (1 ≤ wn ∧ wn ≤ 4) ∧ ChS c0 W3 wx ∧ Below w.heap.size w wx)
  case first =>
    go_wp2_with (go_at_call 114; refine HK.out.mono ?_; rintro e w4 ⟨x, rfl, ⟨x1, x2⟩, x3, x4, x5⟩; have ex : IntKind.i64.wrap (1 + x) = 1 + x := IntWalk.i64_in _ (by omega))
    go_meet
    obtain ⟨wn, hwn⟩ : ∃ wn : Nat, (wn : Int) = 1 + x := ⟨(1 + x).toNat, by omega⟩
    exact ⟨wn, by rw [hwn], by omega, (ChS.start HE.out.1).next (by rw [HC.out]; exact x3) (by rw [HC.out]; exact x4) HE.out.1, HE.out.2.1.trans ((x4.below (B := w.heap.size) (HE.out.2.1.size) (by simpa using HE.out.2.2.1)))⟩
  case rest =>
  obtain ⟨wn, rfl, hw4, S4, b4⟩ := hcut
  have e1 : c0.ibm = ibm := by rw [HC.out]
  have e2 : c0.lbm = lbm := by rw [HC.out]
  have e3 : c0.rb = rb := by rw [HC.out]
  have e4 : c0.pb = pb := by rw [HC.out]
  have e5 : c0.Ak = A3 := by rw [HC.out]
  have e6 : c0.ck = c3 := by rw [HC.out]
  have e7 : c0.kl = l3 := by rw [HC.out]
  have e8 : c0.ibr = ibr := by rw [HC.out]
  have e9 : c0.p = p := by rw [HC.out]
  have E4 := HE.out.1.at S4
  have R4 : Rd wc 1 A5 l5.length (byts l5) := H04.out.2.2.1.below b4
  have hle := HE.out.2.2
  apply_assumption
  rw [← e1, ← e2, ← e3, ← e4, ← e5, ← e6, ← e7]
  refine charts_v (w := w) E4 (by rw [e9]; exact HCK.out) b4 (by rw [e1, e8]; omega) hw4 (by rw [e7]; exact H0.out.2.2.2.2.2) (by rw [e7]; exact hm3) (by rw [e7, e6]; exact hc3) hm5 R4 H04.out.2.2.2.1 hc5 H04.out.2.2.2.2 ?_
  intro _ _ _ h
  exact h

end Go.Proofs.Ytfmhlnfcbbpfeaa
