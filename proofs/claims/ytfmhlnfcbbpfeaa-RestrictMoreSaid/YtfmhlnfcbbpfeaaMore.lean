/- The walk of RestrictMore. -/
import Derived.Test.YtfmhlnfcbbpfeaaLawKit
import Derived.Test.YtfmhlnfcbbpfeaaLower
namespace Go.Proofs.Ytfmhlnfcbbpfeaa
open Go Go.RowKit Sp
set_option linter.unusedVariables false

set_option maxRecDepth 100000 in
set_option maxHeartbeats 4000000 in
theorem more_any (A1 : Option Addr) (c1 : Nat) (l1 : List Int) (A2 : Option Addr) (c2 : Nat) (l2 : List Int) (A3 : Option Addr) (c3 : Nat) (l3 : List Int) (cl tn mo : Int) (w : World) (hr1 : Rd w 1 A1 l1.length (byts l1)) (hl1 : Bytes l1) (hm1 : l1.length ≤ 9223372036854775800) (hr2 : Rd w 1 A2 l2.length (byts l2)) (hl2 : Bytes l2) (hm2 : l2.length ≤ 9223372036854775800) (hr3 : Rd w 1 A3 l3.length (byts l3)) (hl3 : Bytes l3) (hm3 : l3.length ≤ 9223372036854775800)
    (h1 : 0 ≤ cl ∧ cl ≤ 255) (h2 : 0 ≤ tn ∧ tn ≤ 255) (h3 : 0 ≤ mo ∧ mo ≤ 255) :
    Calls Try.prog 6 #[.slice A1 l1.length c1, .slice A2 l2.length c2, .slice A3 l3.length c3, .int .u8 cl, .int .u8 tn, .int .u8 mo] w fun e w' => e = .returned (.bool true) ∧ Below w.heap.size w w' := by
  have H0 := Lib.hid (And.intro hr1 (And.intro hl1 (And.intro hm1 (And.intro hr2 (And.intro hl2 hm2)))))
  have H03 := Lib.hid (And.intro hr3 (And.intro hl3 hm3))
  clear hr1 hl1 hm1 hr2 hl2 hm2 hr3 hl3 hm3
  go_enter Try.func6, Try.ntmps6
  go_wp2_with fail
  refine (Made_any A1 c1 l1 w H0.out.1 H0.out.2.1 (by have := H0.out.2.2.1; omega)).mono ?_
  rintro e w1 ⟨As, cs, rfl, hp1, b1⟩
  obtain ⟨p, hp⟩ : ∃ p, p = madeP l1 := ⟨_, rfl⟩
  rw [← hp] at hp1 ⊢
  have HP := Lib.hid (And.intro hp (And.intro hp1 b1))
  clear hp hp1 b1
  go_wp2_with fail
  refine (past_own A2 c2 l2 w1 (H0.out.2.2.2.1.below HP.out.2.2) H0.out.2.2.2.2.1 H0.out.2.2.2.2.2).mono ?_
  rintro e w2 ⟨Ad, cd, days, qd, rfl, hod, hok, hl90, b2⟩
  have hck : checkS p = 0 := by rw [HP.out.1]; exact made_check' l1
  have hst : startS p days = 0 := start_zero hck hok (by omega)
  have pd0 : PD w _ _ As cs p Ad days := PD.new (HP.out.2.1.below b2) hod.rd (HP.out.2.2.trans (b2.mono HP.out.2.2.size))
  have hcd := hod.ge
  have hmd := hod.cap
  have HD := Lib.hid (And.intro hck (And.intro hst (And.intro hok (fun h => (hod.nil_cap h).1))))
  clear hod hok b2 hck hst
  go_upto_region 2 with fail
  obtain ⟨W, hW⟩ : ∃ W, W = w2.alloc (.cells #[.slice As p.steps.length cs, .int .i64 p.hold, .int .i64 p.calm, .int .i64 p.notice, .int .i64 p.grace] 25) := ⟨_, rfl⟩
  obtain ⟨pb, hpb⟩ : ∃ pb, pb = w2.heap.size := ⟨_, rfl⟩
  rw [← hW, ← hpb] at pd0 ⊢
  have HPD := Lib.hid pd0
  clear hW hpb pd0
  go_wp2_with fail
  refine (lower_any Ad cd days A3 c3 l3 W HPD.out.dys HD.out.2.2.2 (by omega) HD.out.2.2.1 (H03.out.1.below HPD.out.bel) H03.out.2.1 H03.out.2.2).mono ?_
  rintro e X1 ⟨Al, cl1, low, ql, rfl, hll, hol, hle, hlok, _, b1⟩
  have pdd := HPD.out.below b1
  have pdl : PD w X1 pb As cs p Al low := ⟨pdd.blk, pdd.pol, by rw [hll]; exact hol.rd, pdd.bel⟩
  have hsl : startS p low = 0 := start_zero HD.out.1 hlok (by omega)
  obtain ⟨q0, q1, q2, q3, q4, zp⟩ := pdd.cells
  have HX1 := Lib.hid (And.intro pdd (And.intro pdl (And.intro hsl (And.intro hle hll))))
  clear pdd pdl hsl hle hlok hol b1
  -- the four lists
  have k1 : Calls Try.prog 19 #[.agg #[.slice As p.steps.length cs, .int .i64 p.hold, .int .i64 p.calm, .int .i64 p.notice, .int .i64 p.grace], .slice Al days.length cl1] X1
      fun e w' => ∃ A1 c1, e = .returned (.tuple #[.slice A1 days.length c1, .int .i64 0]) ∧ Rd w' 1 A1 days.length (ints (decidedS p low)) ∧ Below X1.heap.size X1 w' := by
    have := dec_ok cl1 HX1.out.2.2.1 HX1.out.2.1 (by omega)
    rwa [hll] at this
  have K1 := Lib.hid k1
  have HLL := Lib.hid hll
  clear k1 hll
  go_wp2_with fail
  refine K1.out.mono ?_
  rintro e X2 ⟨Aa, ca, rfl, ra, b2⟩
  have pdd := HX1.out.1.below b2
  have pdl := HX1.out.2.1.below b2
  have HX2 := Lib.hid (And.intro pdd (And.intro pdl ra))
  clear q0 q1 q2 q3 q4 zp b2 ra pdl
  obtain ⟨q0, q1, q2, q3, q4, zp⟩ := pdd.cells
  clear pdd
  go_wp2_with fail
  refine (dec_ok cd HD.out.2.1 HX2.out.1 (by omega)).mono ?_
  rintro e X3 ⟨Ab, cb, rfl, rb, b3⟩
  have pdd := HX2.out.1.below b3
  have pdl := HX2.out.2.1.below b3
  have HX3 := Lib.hid (And.intro pdd (And.intro pdl (And.intro (HX2.out.2.2.below b3) rb)))
  have k1 : Calls Try.prog 21 #[.agg #[.slice As p.steps.length cs, .int .i64 p.hold, .int .i64 p.calm, .int .i64 p.notice, .int .i64 p.grace], .slice Al days.length cl1] X3
      fun e w' => ∃ A1 c1, e = .returned (.tuple #[.slice A1 days.length c1, .int .i64 0]) ∧ Rd w' 1 A1 days.length (ints (forceS p low)) ∧ Below X3.heap.size X3 w' := by
    have := for_ok cl1 HX1.out.2.2.1 pdl (by rw [HLL.out]; omega)
    rwa [HLL.out] at this
  have K3 := Lib.hid k1
  clear q0 q1 q2 q3 q4 zp b3 rb pdl k1
  obtain ⟨q0, q1, q2, q3, q4, zp⟩ := pdd.cells
  clear pdd
  go_wp2_with fail
  refine K3.out.mono ?_
  rintro e X4 ⟨Ac, cc, rfl, rc, b4⟩
  have pdd := HX3.out.1.below b4
  have HX4 := Lib.hid (And.intro pdd (And.intro (HX3.out.2.1.below b4) (And.intro (HX3.out.2.2.1.below b4) (And.intro (HX3.out.2.2.2.below b4) rc))))
  clear q0 q1 q2 q3 q4 zp b4 rc
  obtain ⟨q0, q1, q2, q3, q4, zp⟩ := pdd.cells
  clear pdd
  go_wp2_with fail
  refine (for_ok cd HD.out.2.1 HX4.out.1 (by omega)).mono ?_
  rintro e X5 ⟨Af, cf, rfl, rf, b5⟩
  obtain ⟨pd4, pl4, ra4, rb4, rc4⟩ := HX4.out
  have HX5 := Lib.hid (And.intro (pd4.below b5) (And.intro (pl4.below b5) (And.intro (ra4.below b5) (And.intro (rb4.below b5) (And.intro (rc4.below b5) rf)))))
  clear q0 q1 q2 q3 q4 zp b5 rf pd4 pl4 ra4 rb4 rc4
  go_upto_region 11 with fail
  obtain ⟨x, hx⟩ : ∃ x, x = cl % 7 := ⟨_, rfl⟩
  obtain ⟨t, ht⟩ : ∃ t, t = 100 * tn := ⟨_, rfl⟩
  rw [← hx, ← ht]
  obtain ⟨x', hx'⟩ : ∃ x', x' = if x + mo % 2 < 6 then x + mo % 2 else 6 := ⟨_, rfl⟩
  obtain ⟨t', ht'⟩ : ∃ t', t' = t + mo := ⟨_, rfl⟩
  obtain ⟨eb, heb⟩ : ∃ eb, eb = (mo % 3 == 0) := ⟨_, rfl⟩
  rw [← hx', ← ht', ← heb]
  have hvr : vright ⟨x, t, false⟩ = true := by simp [vright, within]; omega
  have hxb : x ≤ x' ∧ x' ≤ 6 := by rw [hx']; split <;> omega
  have hur : vright ⟨x', t', eb⟩ = true := by simp [vright, within]; omega
  have hmp : ∀ k : Nat, k < days.length → (passesS p days ⟨x, t, false⟩).getD k false = true → (passesS p days ⟨x', t', eb⟩).getD k false = true := fun k hk h => passes_more p days (u := ⟨x', t', eb⟩) hxb.1 (by simp only; omega) (fun h => by cases h) hk h
  have HV := Lib.hid (And.intro hvr (And.intro hur hmp))
  clear hx ht hx' ht' heb hvr hxb hur hmp
  obtain ⟨U, hU⟩ : ∃ U, U = (X5.alloc (.cells #[.int .i64 x, .int .i64 t, .bool false] 33)).alloc (.cells #[.int .i64 x', .int .i64 t', .bool eb] 33) := ⟨_, rfl⟩
  obtain ⟨vb, hvb⟩ : ∃ vb, vb = X5.heap.size := ⟨_, rfl⟩
  obtain ⟨ub, hub⟩ : ∃ ub, ub = vb + 1 := ⟨_, rfl⟩
  rw [← hU, ← hvb, ← hub]
  have bU : Below X5.heap.size X5 U := by rw [hU]; exact ((Below.refl _ _).alloc (Nat.le_refl _) _).alloc (by simp) _
  have vh : U.heap[vb]? = some (.cells #[.int .i64 x, .int .i64 t, .bool false] 33 (0, 0)) := by rw [hU, hvb]; exact heap_alloc' (heap_alloc_new _ _) _
  have uh : U.heap[ub]? = some (.cells #[.int .i64 x', .int .i64 t', .bool eb] 33 (0, 0)) := by
    rw [hU, hub, hvb]
    have := heap_alloc_new (X5.alloc (.cells #[.int .i64 x, .int .i64 t, .bool false] 33)) (.cells #[.int .i64 x', .int .i64 t', .bool eb] 33)
    rw [World.size_alloc] at this
    exact this
  have FU : ∀ X, Below U.heap.size U X → PD w X pb As cs p Ad days ∧ PD w X pb As cs p Al low ∧ (Rd X 1 Aa days.length (ints (decidedS p low)) ∧ Rd X 1 Ab days.length (ints (decidedS p days)) ∧ Rd X 1 Ac days.length (ints (forceS p low)) ∧ Rd X 1 Af days.length (ints (forceS p days))) ∧
      ((X.cell? ⟨vb, 0, none⟩ = some (.int .i64 x) ∧ X.cell? ⟨vb, 1, none⟩ = some (.int .i64 t) ∧ X.cell? ⟨vb, 2, none⟩ = some (.bool false)) ∧ (X.cell? ⟨ub, 0, none⟩ = some (.int .i64 x') ∧ X.cell? ⟨ub, 1, none⟩ = some (.int .i64 t') ∧ X.cell? ⟨ub, 2, none⟩ = some (.bool eb))) := by
    intro X hX
    have h5 := (hX.block _ (heap_lt vh)).trans vh
    have h6 := (hX.block _ (heap_lt uh)).trans uh
    have b : Below X5.heap.size X5 X := bU.trans (hX.mono bU.size)
    exact ⟨HX5.out.1.below b, HX5.out.2.1.below b, ⟨HX5.out.2.2.1.below b, HX5.out.2.2.2.1.below b, HX5.out.2.2.2.2.1.below b, HX5.out.2.2.2.2.2.below b⟩, ⟨(cell_of_heap h5 0).trans rfl, (cell_of_heap h5 1).trans rfl, (cell_of_heap h5 2).trans rfl⟩, (cell_of_heap h6 0).trans rfl, (cell_of_heap h6 1).trans rfl, (cell_of_heap h6 2).trans rfl⟩
  have HF := Lib.hid FU
  clear hU hvb hub bU vh uh FU
  have ck := check_ok HD.out.1
  have hmono : ∀ k : Nat, k < days.length → (decidedS p low).getD k 0 ≤ (decidedS p days).getD k 0 ∧ (forceS p low).getD k 0 ≤ (forceS p days).getD k 0 ∧ ((passesS p days ⟨x, t, false⟩).getD k false = true → (passesS p low ⟨x, t, false⟩).getD k false = true) := fun k hk =>
    ⟨(dec_mono ck.2.2.1 ck.2.2.2.2.1 HX1.out.2.2.2.1).2 k (by rw [decidedS_length, HLL.out]; exact hk), (force_mono ck.2.2.1 ck.2.2.2.2.1 ck.2.2.2.2.2.2.1 HX1.out.2.2.2.1).2 k (by rw [forceS_length, HLL.out]; exact hk), fun h => passes_mono HD.out.1 HX1.out.2.2.2.1 _ (by rw [HLL.out]; exact hk) h⟩
  have HMO := Lib.hid hmono
  clear hmono ck
  go_wp2_with fail
  go_loopw [131] (fun i wr => ∃ k : Nat, k ≤ days.length ∧ i = .int .i64 k ∧ Below U.heap.size U wr) (fun i _ => days.length - (intOf i).toNat)
  case atStart => exact ⟨0, Nat.zero_le _, rfl, Below.refl _ _⟩
  case round =>
    obtain ⟨k, hk, rfl, hb⟩ := hrel
    have HB := Lib.hid hb
    clear hb
    by_cases hlt : k < days.length
    · obtain ⟨pdd, pdl, ⟨ra, rb, rc, rf⟩, ⟨v0, v1, v2⟩, u0, u1, u2⟩ := HF.out wr HB.out
      obtain ⟨ba, oa, rfl, zba, ka⟩ := ra.2 (by omega)
      obtain ⟨bb, ob, rfl, zbb, kb⟩ := rb.2 (by omega)
      obtain ⟨bc, oc, rfl, zbc, kc⟩ := rc.2 (by omega)
      obtain ⟨bf, of_, rfl, zbf, kf⟩ := rf.2 (by omega)
      obtain ⟨m1, m2, m3⟩ := HMO.out k hlt
      obtain ⟨da, hda⟩ : ∃ y, y = (decidedS p low).getD k 0 := ⟨_, rfl⟩
      obtain ⟨db, hdb⟩ : ∃ y, y = (decidedS p days).getD k 0 := ⟨_, rfl⟩
      obtain ⟨dc, hdc⟩ : ∃ y, y = (forceS p low).getD k 0 := ⟨_, rfl⟩
      obtain ⟨df, hdf⟩ : ∃ y, y = (forceS p days).getD k 0 := ⟨_, rfl⟩
      have ca' : wr.cell? ⟨ba, oa + k, none⟩ = some (.int .i64 da) := by rw [hda]; exact ka k _ (ints_get (by rw [decidedS_length, HLL.out]; exact hlt))
      have cb' : wr.cell? ⟨bb, ob + k, none⟩ = some (.int .i64 db) := by rw [hdb]; exact kb k _ (ints_get (by rw [decidedS_length]; exact hlt))
      have cc' : wr.cell? ⟨bc, oc + k, none⟩ = some (.int .i64 dc) := by rw [hdc]; exact kc k _ (ints_get (by rw [forceS_length, HLL.out]; exact hlt))
      have cf' : wr.cell? ⟨bf, of_ + k, none⟩ = some (.int .i64 df) := by rw [hdf]; exact kf k _ (ints_get (by rw [forceS_length]; exact hlt))
      have g1 : decide (db < da) = false := by simp; omega
      have g2 : decide (df < dc) = false := by simp; omega
      obtain ⟨px, hpx⟩ : ∃ y, y = (passesS p days ⟨x, t, false⟩).getD k false := ⟨_, rfl⟩
      obtain ⟨py, hpy⟩ : ∃ y, y = (passesS p low ⟨x, t, false⟩).getD k false := ⟨_, rfl⟩
      obtain ⟨pz, hpz⟩ : ∃ y, y = (passesS p days ⟨x', t', eb⟩).getD k false := ⟨_, rfl⟩
      have hxy : px = true → py = true ∧ pz = true := fun h => ⟨by rw [hpy]; exact m3 (hpx.symm.trans h), by rw [hpz]; exact HV.out.2.2 k hlt (hpx.symm.trans h)⟩
      have HPX := Lib.hid (And.intro hpx (And.intro hpy (And.intro hpz hxy)))
      have n1 : (0 : Int) ≤ (k : Int) := by omega
      have n2 : (k : Int) < (days.length : Int) := by omega
      have HPW := Lib.hid (And.intro pdd pdl)
      clear ka kb kc kf m1 m2 m3 hda hdb hdc hdf hpx hpy hpz hxy pdd pdl ra rb rc rf v0 v1 v2 u0 u1 u2 zba zbb zbc zbf
      go_upto_region 14 with fail
      go_quiet (fail)
      obtain ⟨V, hV⟩ : ∃ V, V = wr.drewN nq := ⟨_, rfl⟩
      rw [← hV]
      have bV : Below U.heap.size U V := by rw [hV]; exact drewB HB.out _
      have HBV := Lib.hid bV
      clear hV bV ca' cb' cc' cf' g1 g2
      obtain ⟨pdd, pdl, _, ⟨v0, v1, v2⟩, u0, u1, u2⟩ := HF.out V HBV.out
      obtain ⟨q0, q1, q2, q3, q4, zp⟩ := pdd.cells
      have HPV := Lib.hid pdd
      clear pdd pdl
      go_wp2_with fail
      refine (may_call cd HD.out.2.1 HPV.out (by omega) HV.out.1 hlt).mono ?_
      rintro e Y1 ⟨rfl, b1⟩
      rw [← HPX.out.1]
      have HB1 := Lib.hid (HBV.out.trans (b1.mono HBV.out.size))
      clear b1 q0 q1 q2 q3 q4 zp v0 v1 v2 u0 u1 u2
      obtain ⟨pdd, pdl, _, ⟨v0, v1, v2⟩, u0, u1, u2⟩ := HF.out Y1 HB1.out
      obtain ⟨q0, q1, q2, q3, q4, zp⟩ := pdd.cells
      have k2 : Calls Try.prog 17 #[.agg #[.slice As p.steps.length cs, .int .i64 p.hold, .int .i64 p.calm, .int .i64 p.notice, .int .i64 p.grace], .slice Al days.length cl1, .agg #[.int .i64 x, .int .i64 t, .bool false], .int .i64 k] Y1
          fun e w' => e = .returned (.tuple #[.bool py, .int .i64 0]) ∧ Below Y1.heap.size Y1 w' := by
        have := may_call cl1 HX1.out.2.2.1 pdl (by rw [HLL.out]; omega) HV.out.1 (k := k) (by rw [HLL.out]; exact hlt)
        rw [HLL.out, ← HPX.out.2.1] at this
        exact this
      have K2 := Lib.hid k2
      clear pdd pdl k2
      go_wp2_with fail
      refine K2.out.mono ?_
      rintro e Y2 ⟨rfl, b2⟩
      have HB2 := Lib.hid (HB1.out.trans (b2.mono HB1.out.size))
      clear b2 q0 q1 q2 q3 q4 zp v0 v1 v2 u0 u1 u2
      obtain ⟨pdd, pdl, _, ⟨v0, v1, v2⟩, u0, u1, u2⟩ := HF.out Y2 HB2.out
      obtain ⟨q0, q1, q2, q3, q4, zp⟩ := pdd.cells
      have HP2 := Lib.hid pdd
      clear pdd pdl
      go_wp2_with fail
      refine (may_call cd HD.out.2.1 HP2.out (by omega) HV.out.2.1 hlt).mono ?_
      rintro e Y3 ⟨rfl, b3⟩
      rw [← HPX.out.2.2.1]
      have HB3 := Lib.hid (HB2.out.trans (b3.mono HB2.out.size))
      clear b3 q0 q1 q2 q3 q4 zp v0 v1 v2 u0 u1 u2
      cases px
      · go_wp2_with fail
        go_roundw
        case measure => simp [intOf]; omega
        case rel => exact ⟨k + 1, by omega, by go_num, HB3.out⟩
      · obtain ⟨rfl, rfl⟩ := HPX.out.2.2.2 rfl
        go_wp2_with fail
        go_roundw
        case measure => simp [intOf]; omega
        case rel => exact ⟨k + 1, by omega, by go_num, HB3.out⟩
    · have hb := (HF.out wr HB.out).1.bel
      have HBW := Lib.hid hb
      clear hb
      go_wp2_with fail
      refine (awake_any _).mono ?_
      rintro e X6 ⟨rfl, b6⟩
      have B6 := Lib.hid b6
      clear b6
      go_wp2_with fail
      go_ret
      exact ⟨rfl, HBW.out.trans (B6.out.mono HBW.out.size)⟩
end Go.Proofs.Ytfmhlnfcbbpfeaa
