/- polynyaref08: shows, Shows -/
import Derived.Test.YtbgnkljjgfcngaaGreatRSp15
import Derived.Test.YtbgnkljjgfcngaaGreatRSp14
set_option linter.unusedVariables false
set_option linter.unusedSimpArgs false
namespace Go.Proofs.YtbgnkljjgfcngaaGreat
open Go Go.RowKit Sp
set_option linter.unusedVariables false

/-- what the loop of shows has seen of a day -/
def ShD (u : Int) (days kp : List Int) (step lo hi : Int) (d : Nat) : Prop := (lo ≤ (d : Int) → (d : Int) ≤ hi → u ≤ days.getD d 0) ∧ (hi < (d : Int) → step ≤ kp.getD d 0)
theorem shows_yes {p : Pol} {days kp : List Int} {d j : Nat} {lo hi : Int} (h1 : 0 ≤ lo) (h2 : lo ≤ hi) (h3 : hi ≤ d) (h4 : hi - lo + 1 = p.hold) (h : ∀ k, k < d + 1 → ShD (stp p j).up days kp j lo hi k) : showsS p days kp d j lo hi = true := by
  rw [showsS, if_neg (by omega), Bool.and_eq_true, allGe_iff, allGe_iff]
  refine ⟨fun k hk => ?_, fun k hk => ?_⟩
  · have := (h (lo.toNat + k) (by omega)).1 (by omega) (by omega)
    rw [stp] at this
    rwa [Int.toNat_natCast]
  · have h5 := (h ((hi + 1).toNat + k) (by omega)).2 (by omega)
    exact h5
theorem shows_no {p : Pol} {days kp : List Int} {d j : Nat} {lo hi : Int} (h1 : 0 ≤ lo) (h2 : lo ≤ hi) (h3 : hi ≤ d) (h4 : hi - lo + 1 = p.hold) {k : Nat} (hk : k < d + 1) (h : ¬ ShD (stp p j).up days kp j lo hi k) : showsS p days kp d j lo hi = false := by
  rw [← Bool.not_eq_true]
  intro he
  apply h
  rw [showsS, if_neg (by omega), Bool.and_eq_true, allGe_iff, allGe_iff] at he
  refine ⟨fun h5 h6 => ?_, fun h5 => ?_⟩
  · have := he.1 (k - lo.toNat) (by omega)
    rw [Int.toNat_natCast, show lo.toNat + (k - lo.toNat) = k from by omega] at this
    exact this
  · have := he.2 (k - (hi + 1).toNat) (by omega)
    rwa [show (hi + 1).toNat + (k - (hi + 1).toNat) = k from by omega] at this
theorem shows_out {p : Pol} {days kp : List Int} {d j : Nat} {lo hi : Int} (hh : 1 ≤ p.hold) (h : within lo 0 d = false ∨ within hi 0 d = false ∨ hi - lo ≠ p.hold - 1) : showsS p days kp d j lo hi = false := by
  rw [showsS, if_pos]
  simp only [within, Bool.and_eq_false_iff, decide_eq_false_iff_not] at h
  omega

set_option maxRecDepth 100000 in
set_option maxHeartbeats 4000000 in
theorem rshows_any (As : Option Addr) (cs : Nat) (p : Pol) (A : Option Addr) (c : Nat) (days : List Int) (d j : Nat) (lo hi : Int) (w : World) (hp : PolV w As cs p) (hr : Rd w 1 A days.length (ints days)) (hc : checkS p = 0) (hl : days.length ≤ 400) (hd : d < days.length) (hj : j < p.steps.length) :
    Calls Tryz.prog 83 #[.agg #[.slice As p.steps.length cs, .int .i64 p.hold, .int .i64 p.calm, .int .i64 p.notice, .int .i64 p.grace], .slice A days.length c, .int .i64 d, .int .i64 j, .agg #[.int .i64 lo, .int .i64 hi]] w
      fun e w' => e = .returned (.bool (showsS p days (keptS p days) d j lo hi)) ∧ Below w.heap.size w w' := by
  have rd0 := RD.new (A := A) (days := days) hp hr
  obtain ⟨W1, hW1⟩ : ∃ W, W = w.alloc (.cells #[.slice As p.steps.length cs, .int .i64 p.hold, .int .i64 p.calm, .int .i64 p.notice, .int .i64 p.grace] 65) := ⟨_, rfl⟩
  obtain ⟨ob, hob⟩ : ∃ ob, ob = w.heap.size := ⟨_, rfl⟩
  rw [← hW1, ← hob] at rd0
  obtain ⟨W, hW⟩ : ∃ W, W = W1.alloc (.cells #[.int .i64 lo, .int .i64 hi] 33) := ⟨_, rfl⟩
  obtain ⟨vb, hvb⟩ : ∃ vb, vb = W1.heap.size := ⟨_, rfl⟩
  have hvb2 : vb = ob + 1 := by rw [hvb, hW1, hob]; simp
  have hvh : W.heap[vb]? = some (.cells #[.int .i64 lo, .int .i64 hi] 33 (0, 0)) := by rw [hW, hvb]; exact heap_alloc_new _ _
  have rdW : RD w W ob As cs p A days := rd0.below (by rw [hW]; exact (Below.refl _ _).alloc (Nat.le_refl _) _)
  obtain ⟨ck1, ck2, ck3, ck4, _⟩ := check_ok hc
  obtain ⟨q0, q1, q2, q3, q4, zp⟩ := rdW.cells
  have v0 := (cell_of_heap hvh 0).trans rfl
  have v1 := (cell_of_heap hvh 1).trans rfl
  have zv := heap_lt hvh
  obtain ⟨r1, hr1⟩ : ∃ r, r = within lo 0 d := ⟨_, rfl⟩
  obtain ⟨r2, hr2⟩ : ∃ r, r = within hi 0 d := ⟨_, rfl⟩
  have in1 : ∀ wx, Calls Tryz.prog 72 #[.int .i64 lo, .int .i64 0, .int .i64 d] wx fun e w' => e = .returned (.bool r1) ∧ wx = w' := fun wx => by rw [hr1]; exact rin_any lo 0 d wx
  have in2 : ∀ wx, Calls Tryz.prog 72 #[.int .i64 hi, .int .i64 0, .int .i64 d] wx fun e w' => e = .returned (.bool r2) ∧ wx = w' := fun wx => by rw [hr2]; exact rin_any hi 0 d wx
  have HR := Lib.hid (And.intro rdW (And.intro hvh (And.intro hc (And.intro hr1 (And.intro hr2 (And.intro in1 in2))))))
  clear hp hr rd0 rdW hvh hvb hc hr1 hr2 in1 in2 ck1 ck2
  cases r1
  case' false =>
    go_enter Tryz.func83, Tryz.ntmps83
    go_upto_region 1 with fail
    rw [← hW1, ← hob, ← hvb2, ← hW]
    clear hW hob hW1 hvb2
    go_wp2_with fail
    refine (HR.out.2.2.2.2.2.1 _).mono ?_
    rintro e w1 ⟨rfl, rfl⟩
    go_wp2_with fail
    go_ret
    exact ⟨by rw [shows_out ck3 (.inl HR.out.2.2.2.1.symm)]; rfl, HR.out.1.bel⟩
  cases r2
  case' false =>
    go_enter Tryz.func83, Tryz.ntmps83
    go_upto_region 1 with fail
    rw [← hW1, ← hob, ← hvb2, ← hW]
    clear hW hob hW1 hvb2
    go_wp2_with fail
    refine (HR.out.2.2.2.2.2.1 _).mono ?_
    rintro e w1 ⟨rfl, rfl⟩
    go_wp2_with fail
    refine (HR.out.2.2.2.2.2.2 _).mono ?_
    rintro e w1 ⟨rfl, rfl⟩
    go_wp2_with fail
    go_ret
    exact ⟨by rw [shows_out ck3 (.inr (.inl HR.out.2.2.2.2.1.symm))]; rfl, HR.out.1.bel⟩
  have hlo : 0 ≤ lo ∧ lo ≤ d := by have := HR.out.2.2.2.1; simp [within] at this; omega
  have hhi : 0 ≤ hi ∧ hi ≤ d := by have := HR.out.2.2.2.2.1; simp [within] at this; omega
  obtain ⟨l1, l2⟩ := hlo
  obtain ⟨l3, l4⟩ := hhi
  obtain ⟨h, hh⟩ : ∃ h, h = p.hold := ⟨_, rfl⟩
  rw [← hh] at q1
  have HH := Lib.hid hh
  have ck3' : 1 ≤ h := by omega
  have ck4' : h ≤ 30 := by omega
  clear hh
  by_cases hw : hi - lo = h - 1
  case' neg =>
    have hwb : (hi - lo != h - 1) = true := by simpa using hw
    have HW := Lib.hid hw
    clear hw
    go_enter Tryz.func83, Tryz.ntmps83
    go_upto_region 1 with fail
    rw [← hW1, ← hob, ← hvb2, ← hW]
    clear hW hob hW1 hvb2
    go_wp2_with fail
    refine (HR.out.2.2.2.2.2.1 _).mono ?_
    rintro e w1 ⟨rfl, rfl⟩
    go_wp2_with fail
    refine (HR.out.2.2.2.2.2.2 _).mono ?_
    rintro e w1 ⟨rfl, rfl⟩
    go_wp2_with fail
    go_ret
    exact ⟨by rw [shows_out ck3 (.inr (.inr (by rw [← HH.out]; exact HW.out)))]; rfl, HR.out.1.bel⟩
  have hwb : (hi - lo != h - 1) = false := by simpa using hw
  have HW := Lib.hid hw
  have hlh : lo ≤ hi := by omega
  clear hw
  go_enter Tryz.func83, Tryz.ntmps83
  go_upto_region 1 with fail
  rw [← hW1, ← hob, ← hvb2, ← hW]
  clear hW hob hW1 hvb2
  go_wp2_with fail
  refine (HR.out.2.2.2.2.2.1 _).mono ?_
  rintro e w1 ⟨rfl, rfl⟩
  go_wp2_with fail
  refine (HR.out.2.2.2.2.2.2 _).mono ?_
  rintro e w1 ⟨rfl, rfl⟩
  go_wp2_with fail
  clear hwb q0 q1 q2 q3 q4 zp v0 v1 zv
  go_loopw [11] (fun i wr => ∃ k : Nat, k ≤ d + 1 ∧ i = .int .i64 k ∧ (∀ k', k' < k → ShD (stp p j).up days (keptS p days) j lo hi k') ∧ Below W.heap.size W wr) (fun i _ => d + 1 - (intOf i).toNat)
  case atStart => exact ⟨0, by omega, rfl, fun k' h => absurd h (by omega), Below.refl _ _⟩
  case round =>
    obtain ⟨k, hk, rfl, hall, hb⟩ := hrel
    have rdw := HR.out.1.below hb
    have hvw := (hb.block _ (heap_lt HR.out.2.1)).trans HR.out.2.1
    have HB := Lib.hid (And.intro hb (And.intro hall rdw))
    by_cases hkd : k ≤ d
    · obtain ⟨q0, q1, q2, q3, q4, zp⟩ := rdw.cells
      have v0 := (cell_of_heap hvw 0).trans rfl
      have v1 := (cell_of_heap hvw 1).trans rfl
      have zv := heap_lt hvw
      obtain ⟨bd, od, rfl, cd⟩ := rdw.day (k := k) (by omega)
      obtain ⟨bs, os, rfl, zs, s0, s1, s2, s3⟩ := rdw.step (k := j) hj
      obtain ⟨x, hx⟩ : ∃ x, x = days.getD k 0 := ⟨_, rfl⟩
      obtain ⟨u, hu⟩ : ∃ u, u = (stp p j).up := ⟨_, rfl⟩
      obtain ⟨y, hy⟩ : ∃ y, y = (keptS p days).getD k 0 := ⟨_, rfl⟩
      rw [← hx] at cd
      rw [← hu] at s2
      have k1 := fun n => rKept_any _ cs p _ c days k (wr.drewN n) (rdw.below ((below_drewN (Below.refl _ _)) n)).pol (rdw.below ((below_drewN (Below.refl _ _)) n)).dys HR.out.2.2.1 (by omega) hl
      rw [← hy] at k1
      have HX := Lib.hid (And.intro hx (And.intro hu (And.intro hy (And.intro k1 hvw))))
      have n1 : (0 : Int) ≤ (k : Int) := by omega
      have n2 : (k : Int) < (days.length : Int) := by omega
      have n3 : (0 : Int) ≤ (j : Int) := by omega
      have n4 : (j : Int) < (p.steps.length : Int) := by omega
      have fin : ∀ {w'}, Below wr.heap.size wr w' → ShD u days (keptS p days) j lo hi k → (∀ k', k' < k + 1 → ShD (stp p j).up days (keptS p days) j lo hi k') ∧ Below W.heap.size W w' := fun hb' hs => ⟨fun k' h' => by
        by_cases e : k' = k
        · subst e; rw [← hu]; exact hs
        · exact hall k' (by omega), hb.trans (hb'.mono hb.size)⟩
      have no : ∀ {w'}, Below wr.heap.size wr w' → ¬ ShD u days (keptS p days) j lo hi k → showsS p days (keptS p days) d j lo hi = false ∧ Below w.heap.size w w' := fun hb' hs =>
        ⟨shows_no (k := k) l1 hlh l4 (by rw [← HH.out]; have := HW.out; omega) (by omega) (by rw [← hu]; exact hs), HR.out.1.bel.trans ((hb.trans (hb'.mono hb.size)).mono HR.out.1.bel.size)⟩
      have HF := Lib.hid (And.intro @fin @no)
      clear hx hu hy k1 hvw hall hb rdw fin no
      by_cases g1 : lo ≤ (k : Int)
      · have e1 : decide (lo ≤ (k : Int)) = true := by simpa using g1
        by_cases g2 : (k : Int) ≤ hi
        · have e2 : decide ((k : Int) ≤ hi) = true := by simpa using g2
          have g3 : ¬ hi < (k : Int) := by omega
          have e3 : decide (hi < (k : Int)) = false := by simpa using g2
          by_cases g4 : x < u
          · have e4 : decide (x < u) = true := by simpa using g4
            go_upto_region 6 with fail
            go_quiet (fail)
            go_wp2_with fail
            go_ret
            obtain ⟨z1, z2⟩ := HF.out.2 (below_drewN (Below.refl _ wr) nq) (fun h => by have := h.1 g1 g2; rw [← HX.out.1] at this; omega)
            exact ⟨by rw [z1]; rfl, z2⟩
          · have e4 : decide (x < u) = false := by simpa using g4
            go_upto_region 6 with fail
            go_quiet (fail)
            go_wp2_with fail
            go_roundw
            case measure => simp [intOf]; omega
            case rel => exact ⟨k + 1, by omega, by go_num, HF.out.1 (below_drewN (Below.refl _ wr) nq) ⟨fun _ _ => by rw [← HX.out.1]; omega, fun h => absurd h g3⟩⟩
        · have e2 : decide ((k : Int) ≤ hi) = false := by simpa using g2
          have g3 : hi < (k : Int) := by omega
          have e3 : decide (hi < (k : Int)) = true := by simpa using g3
          go_upto_region 6 with fail
          go_quiet (fail)
          go_wp2_with fail
          refine (HX.out.2.2.2.1 nq).mono ?_
          rintro e w2 ⟨rfl, b2⟩
          have b3 : Below wr.heap.size wr w2 := (below_drewN (Below.refl _ wr) nq).trans b2
          have HB3 := Lib.hid b3
          clear b2 b3 q0 q1 q2 q3 q4 zp v0 v1 zv cd s0 s1 s2 s3
          by_cases g4 : y < (j : Int)
          · go_wp2_with fail
            go_ret
            obtain ⟨z1, z2⟩ := HF.out.2 HB3.out (fun h => by have := h.2 g3; rw [← HX.out.2.2.1] at this; omega)
            exact ⟨by rw [z1]; rfl, z2⟩
          · go_wp2_with fail
            go_roundw
            case measure => simp [intOf]; omega
            case rel => exact ⟨k + 1, by omega, by go_num, HF.out.1 HB3.out ⟨fun _ h => absurd h (by omega), fun _ => by rw [← HX.out.2.2.1]; omega⟩⟩
      · have e1 : decide (lo ≤ (k : Int)) = false := by simpa using g1
        have g3 : ¬ hi < (k : Int) := by omega
        have e3 : decide (hi < (k : Int)) = false := by simpa using g3
        go_upto_region 6 with fail
        go_quiet (fail)
        go_wp2_with fail
        go_roundw
        case measure => simp [intOf]; omega
        case rel => exact ⟨k + 1, by omega, by go_num, HF.out.1 (below_drewN (Below.refl _ wr) nq) ⟨fun h => absurd h g1, fun h => absurd h g3⟩⟩
    · obtain rfl : k = d + 1 := by omega
      clear hall hb rdw hvw
      go_wp2_with fail
      go_ret
      refine ⟨?_, HR.out.1.bel.trans (HB.out.1.mono HR.out.1.bel.size)⟩
      rw [shows_yes l1 hlh l4 (by rw [← HH.out]; have := HW.out; omega) HB.out.2.1]; rfl
end Go.Proofs.YtbgnkljjgfcngaaGreat
/- polynyaref08: Shows, Witness -/
namespace Go.Proofs.YtbgnkljjgfcngaaGreat
open Go Go.RowKit Sp
set_option linter.unusedVariables false

set_option maxRecDepth 100000 in
set_option maxHeartbeats 4000000 in
theorem rShows_any (As : Option Addr) (cs : Nat) (p : Pol) (A : Option Addr) (c : Nat) (days : List Int) (day step lo hi : Int) (w : World) (hp : PolV w As cs p) (hr : Rd w 1 A days.length (ints days)) (hm : days.length ≤ 9223372036854775807) :
    Calls Tryz.prog 35 #[.agg #[.slice As p.steps.length cs, .int .i64 p.hold, .int .i64 p.calm, .int .i64 p.notice, .int .i64 p.grace], .slice A days.length c, .int .i64 day, .int .i64 step, .agg #[.int .i64 lo, .int .i64 hi]] w (ShowsPost w p days day step lo hi) := by
  have rd0 := RD.new (A := A) (days := days) hp hr
  obtain ⟨W1, hW1⟩ : ∃ W, W = w.alloc (.cells #[.slice As p.steps.length cs, .int .i64 p.hold, .int .i64 p.calm, .int .i64 p.notice, .int .i64 p.grace] 65) := ⟨_, rfl⟩
  obtain ⟨ob, hob⟩ : ∃ ob, ob = w.heap.size := ⟨_, rfl⟩
  rw [← hW1, ← hob] at rd0
  obtain ⟨W, hW⟩ : ∃ W, W = W1.alloc (.cells #[.int .i64 lo, .int .i64 hi] 33) := ⟨_, rfl⟩
  obtain ⟨vb, hvb⟩ : ∃ vb, vb = W1.heap.size := ⟨_, rfl⟩
  have hvb2 : vb = ob + 1 := by rw [hvb, hW1, hob]; simp
  have hvh : W.heap[vb]? = some (.cells #[.int .i64 lo, .int .i64 hi] 33 (0, 0)) := by rw [hW, hvb]; exact heap_alloc_new _ _
  have rdW : RD w W ob As cs p A days := rd0.below (by rw [hW]; exact (Below.refl _ _).alloc (Nat.le_refl _) _)
  obtain ⟨er, her⟩ : ∃ er, er = startS p days := ⟨_, rfl⟩
  have k1 := begun_any As cs p A c days W rdW.pol rdW.dys hm
  rw [← her] at k1
  obtain ⟨q0, q1, q2, q3, q4, zp⟩ := rdW.cells
  obtain ⟨dr, hdr⟩ : ∃ dr, dr = within day 0 ((days.length : Int) - 1) := ⟨_, rfl⟩
  have in1 : ∀ wx, Calls Tryz.prog 72 #[.int .i64 day, .int .i64 0, .int .i64 ((days.length : Int) - 1)] wx fun e w' => e = .returned (.bool dr) ∧ wx = w' := fun wx => by rw [hdr]; exact rin_any day 0 _ wx
  obtain ⟨sr, hsr⟩ : ∃ sr, sr = within step 0 ((p.steps.length : Int) - 1) := ⟨_, rfl⟩
  have in2 : ∀ wx, Calls Tryz.prog 72 #[.int .i64 step, .int .i64 0, .int .i64 ((p.steps.length : Int) - 1)] wx fun e w' => e = .returned (.bool sr) ∧ wx = w' := fun wx => by rw [hsr]; exact rin_any step 0 _ wx
  have HR := Lib.hid (And.intro rdW (And.intro k1 (And.intro her hvh)))
  have HD := Lib.hid (And.intro hdr (And.intro hsr (And.intro in1 in2)))
  have hps : p.steps.length ≤ 9223372036854775807 := by have h1 := hp.1; have h2 := hp.2.1; unfold maxLen at h2; omega
  clear hp hr rd0 rdW k1 her hvh hvb hdr hsr in1 in2
  go_enter Tryz.func35, Tryz.ntmps35
  go_upto_region 1 with fail
  rw [← hW1, ← hob, ← hvb2, ← hW]
  clear hW hob hW1 hvb2
  go_wp2_with fail
  refine HR.out.2.1.mono ?_
  rintro e w1 ⟨rfl, b1⟩
  have rd1 := HR.out.1.below b1
  have hv1 := (b1.block _ (heap_lt HR.out.2.2.2)).trans HR.out.2.2.2
  have HB := Lib.hid (And.intro rd1 hv1)
  clear q0 q1 q2 q3 q4 zp b1 rd1 hv1
  by_cases h0 : er = 0
  · subst h0
    have hs : startS p days = 0 := HR.out.2.2.1.symm
    have HK := Lib.hid hs
    clear hs
    cases dr
    · go_wp2_with fail
      refine (HD.out.2.2.1 _).mono ?_
      rintro e w2 ⟨rfl, rfl⟩
      go_wp2_with fail
      go_ret2
      have he : shE p days day step = 6 := sh_day HK.out HD.out.1.symm
      exact ⟨by rw [shB, he]; rfl, HB.out.1.bel⟩
    · obtain ⟨q0, q1, q2, q3, q4, zp⟩ := HB.out.1.cells
      cases sr
      · go_wp2_with fail
        refine (HD.out.2.2.1 _).mono ?_
        rintro e w2 ⟨rfl, rfl⟩
        go_wp2_with fail
        refine (HD.out.2.2.2 _).mono ?_
        rintro e w2 ⟨rfl, rfl⟩
        go_wp2_with fail
        go_ret2
        have he : shE p days day step = 1 := sh_step HK.out HD.out.1.symm HD.out.2.1.symm
        exact ⟨by rw [shB, he]; rfl, HB.out.1.bel⟩
      · have hlt : 0 ≤ day ∧ day < days.length := by have := HD.out.1; simp [within] at this; omega
        have hlt2 : 0 ≤ step ∧ step < p.steps.length := by have := HD.out.2.1; simp [within] at this; omega
        obtain ⟨d, rfl⟩ : ∃ k : Nat, day = k := ⟨day.toNat, by omega⟩
        obtain ⟨j, rfl⟩ : ∃ k : Nat, step = k := ⟨step.toNat, by omega⟩
        have v0 := (cell_of_heap HB.out.2 0).trans rfl
        have v1 := (cell_of_heap HB.out.2 1).trans rfl
        have zv := heap_lt HB.out.2
        obtain ⟨hck, hl4, _⟩ := start_ok HK.out
        have k2 := rshows_any As cs p A c days d j lo hi w1 HB.out.1.pol HB.out.1.dys hck hl4 (by omega) (by omega)
        have H2 := Lib.hid k2
        clear k2 hck hlt hlt2
        go_wp2_with fail
        refine (HD.out.2.2.1 _).mono ?_
        rintro e w2 ⟨rfl, rfl⟩
        go_wp2_with fail
        refine (HD.out.2.2.2 _).mono ?_
        rintro e w2 ⟨rfl, rfl⟩
        go_wp2_with fail
        refine H2.out.mono ?_
        rintro e w2 ⟨rfl, b2⟩
        have B2 := Lib.hid b2
        clear b2 q0 q1 q2 q3 q4 zp v0 v1 zv
        go_wp2_with fail
        go_ret2
        have he : shE p days d j = 0 := sh_ok HK.out HD.out.1.symm HD.out.2.1.symm
        exact ⟨by rw [shB, he]; rfl, HB.out.1.bel.trans (B2.out.mono HB.out.1.bel.size)⟩
  · have hne : (er != 0) = true := by simp [h0]
    have HK := Lib.hid h0
    clear h0
    go_wp2_with fail
    go_ret2
    have he : shE p days day step = er := by rw [HR.out.2.2.1]; exact sh_start (by rw [← HR.out.2.2.1]; exact HK.out)
    exact ⟨by rw [shB, he, if_neg HK.out]; rfl, HB.out.1.bel⟩

/-- the least days that the reference has found among the first k -/
def rwit (p : Pol) (days kp : List Int) (day step : Int) : Nat → Option Nat
  | 0 => none
  | k + 1 => if showsS p days kp day step k ((k : Int) + p.hold - 1) then some k else rwit p days kp day step k
theorem wit_low {p : Pol} {days kp : List Int} {day step : Int} (h : 1 ≤ p.hold) : ∀ {n : Nat}, (n : Int) < p.hold → wit p days kp day step n = none
  | 0, _ => rfl
  | n + 1, hn => by
    rw [wit, wit_low h (by omega : (n : Int) < p.hold), if_neg]
    rw [showsS, if_pos (.inl (by omega))]; simp
theorem wit_high {p : Pol} {days kp : List Int} {day step : Int} {m : Nat} (hm : day < m) : ∀ k, wit p days kp day step (m + k) = wit p days kp day step m
  | 0 => rfl
  | k + 1 => by
    rw [show m + (k + 1) = (m + k) + 1 from by omega, wit, wit_high hm k, if_neg]
    rw [showsS, if_pos (.inr (.inl (by omega)))]; simp
theorem rwit_wit {p : Pol} {days kp : List Int} {day step : Int} (h : 1 ≤ p.hold) : ∀ k : Nat, (rwit p days kp day step k).map (fun lo => ((lo : Int), (lo : Int) + p.hold - 1)) = wit p days kp day step (k + p.hold.toNat - 1)
  | 0 => by rw [wit_low h (by omega)]; rfl
  | k + 1 => by
    have ih := rwit_wit (p := p) (days := days) (kp := kp) (day := day) (step := step) h k
    rw [show k + 1 + p.hold.toNat - 1 = (k + p.hold.toNat - 1) + 1 from by omega, wit, rwit]
    have e1 : ((k + p.hold.toNat - 1 : Nat) : Int) - p.hold + 1 = k := by omega
    have e2 : ((k + p.hold.toNat - 1 : Nat) : Int) = (k : Int) + p.hold - 1 := by omega
    rw [e1, e2, ← ih]
    split <;> rfl
theorem rwit_all {p : Pol} {days kp : List Int} {d : Nat} {step : Int} (h : 1 ≤ p.hold) : (rwit p days kp d step (d + 1)).map (fun lo => ((lo : Int), (lo : Int) + p.hold - 1)) = wit p days kp d step (d + 1) := by
  rw [rwit_wit h, show d + 1 + p.hold.toNat - 1 = (d + 1) + (p.hold.toNat - 1) from by omega, wit_high (by omega)]
def rwLo (o : Option Nat) : Int := match o with | none => -1 | some k => k
def rwRes (h : Int) (o : Option Nat) : Int × (Int × Int) := match o with | none => (4, 0, 0) | some lo => (0, ((lo : Int), (lo : Int) + h - 1))
def rwHi (h : Int) (o : Option Nat) : Int := match o with | none => 0 | some k => (k : Int) + h - 1

set_option maxRecDepth 100000 in
set_option maxHeartbeats 4000000 in
theorem rWitness_any (As : Option Addr) (cs : Nat) (p : Pol) (A : Option Addr) (c : Nat) (days : List Int) (day : Int) (w : World) (hp : PolV w As cs p) (hr : Rd w 1 A days.length (ints days)) (hm : days.length ≤ 9223372036854775807) :
    Calls Tryz.prog 33 #[.agg #[.slice As p.steps.length cs, .int .i64 p.hold, .int .i64 p.calm, .int .i64 p.notice, .int .i64 p.grace], .slice A days.length c, .int .i64 day] w (WitPost w p days day) := by
  have rd0 := RD.new (A := A) (days := days) hp hr
  obtain ⟨W1, hW1⟩ : ∃ W, W = w.alloc (.cells #[.slice As p.steps.length cs, .int .i64 p.hold, .int .i64 p.calm, .int .i64 p.notice, .int .i64 p.grace] 65) := ⟨_, rfl⟩
  obtain ⟨ob, hob⟩ : ∃ ob, ob = w.heap.size := ⟨_, rfl⟩
  rw [← hW1, ← hob] at rd0
  obtain ⟨W, hW⟩ : ∃ W, W = W1.alloc (.cells #[.int .i64 0, .int .i64 0] 33) := ⟨_, rfl⟩
  obtain ⟨rb, hrb⟩ : ∃ vb, vb = W1.heap.size := ⟨_, rfl⟩
  have hrb2 : rb = ob + 1 := by rw [hrb, hW1, hob]; simp
  have hrbw : w.heap.size < rb := by rw [hrb2, hob]; omega
  have hvh : W.heap[rb]? = some (.cells #[.int .i64 0, .int .i64 0] 33 (0, 0)) := by rw [hW, hrb]; exact heap_alloc_new _ _
  have rdW : RD w W ob As cs p A days := rd0.below (by rw [hW]; exact (Below.refl _ _).alloc (Nat.le_refl _) _)
  obtain ⟨er, her⟩ : ∃ er, er = startS p days := ⟨_, rfl⟩
  have k1 := begun_any As cs p A c days W rdW.pol rdW.dys hm
  rw [← her] at k1
  obtain ⟨q0, q1, q2, q3, q4, zp⟩ := rdW.cells
  obtain ⟨dr, hdr⟩ : ∃ dr, dr = within day 0 ((days.length : Int) - 1) := ⟨_, rfl⟩
  have in1 : ∀ wx, Calls Tryz.prog 72 #[.int .i64 day, .int .i64 0, .int .i64 ((days.length : Int) - 1)] wx fun e w' => e = .returned (.bool dr) ∧ wx = w' := fun wx => by rw [hdr]; exact rin_any day 0 _ wx
  have HR := Lib.hid (And.intro rdW (And.intro k1 (And.intro her (And.intro hvh hrbw))))
  have HD := Lib.hid (And.intro hdr in1)
  clear hp hr rd0 rdW k1 her hvh hrb hdr in1 hrbw
  go_enter Tryz.func33, Tryz.ntmps33
  go_upto_region 1 with fail
  rw [← hW1, ← hob, ← hrb2, ← hW]
  clear hW hob hW1 hrb2
  go_wp2_with fail
  refine HR.out.2.1.mono ?_
  rintro e w1 ⟨rfl, b1⟩
  have rd1 := HR.out.1.below b1
  have hv1 := (b1.block _ (heap_lt HR.out.2.2.2.1)).trans HR.out.2.2.2.1
  have f0 := (cell_of_heap hv1 0).trans rfl
  have f1 := (cell_of_heap hv1 1).trans rfl
  have f2 := frozen_of_heap hv1 0
  have f3 := frozen_of_heap hv1 1
  have HB := Lib.hid (And.intro rd1 hv1)
  clear q0 q1 q2 q3 q4 zp b1 rd1 hv1
  by_cases h0 : er = 0
  · subst h0
    have hs : startS p days = 0 := HR.out.2.2.1.symm
    have HK := Lib.hid hs
    clear hs
    cases dr
    · go_wp2_with fail
      refine (HD.out.2 _).mono ?_
      rintro e w2 ⟨rfl, rfl⟩
      go_wp2_with fail
      have k0 := cell_of_heap (span_cells HB.out.2 (.int .i64 0) (.int .i64 0)) 0
      have k1 := cell_of_heap (span_cells HB.out.2 (.int .i64 0) (.int .i64 0)) 1
      refine bodyPost_ret (v := .tuple #[.agg #[.int .i64 0, .int .i64 0], .int .i64 6]) (by simp [results, Tryz.results33, go_sem, k0, k1]) rfl ?_
      refine ⟨by rw [wit_day HK.out HD.out.1.symm], ?_⟩
      have := HR.out.2.2.2.2
      exact (HB.out.1.bel.setCell (by simp; omega) _).setCell (by simp; omega) _
    · have hlt : 0 ≤ day ∧ day < days.length := by have := HD.out.1; simp [within] at this; omega
      obtain ⟨d, rfl⟩ : ∃ k : Nat, day = k := ⟨day.toNat, by omega⟩
      obtain ⟨hck, hl4, _⟩ := start_ok HK.out
      have hdl : d < days.length := by omega
      have hdI : (d : Int) < (days.length : Int) := by omega
      obtain ⟨j, hj⟩ : ∃ j : Nat, (decidedS p days).getD d 0 = (j : Int) := by
        have := (dec_step hck days d).1
        exact ⟨((decidedS p days).getD d 0).toNat, by omega⟩
      have hjl : j < p.steps.length := by have := (dec_step hck days d).2; rw [hj] at this; omega
      obtain ⟨_, _, ck3, ck4, _⟩ := check_ok hck
      have k2 := rdecided_any As cs p A c days w1 HB.out.1.pol HB.out.1.dys hck hl4
      obtain ⟨q0, q1, q2, q3, q4, zp⟩ := HB.out.1.cells
      have H2 := Lib.hid (And.intro k2 (And.intro hj hck))
      clear k2 hj hck hlt
      go_wp2_with fail
      refine (HD.out.2 _).mono ?_
      rintro e w2 ⟨rfl, rfl⟩
      go_wp2_with fail
      refine H2.out.1.mono ?_
      rintro e W2 ⟨A2, c2, rfl, h1, _, _, b2⟩
      obtain ⟨g, o, rfl, zg, hcg⟩ := h1.2 (by omega)
      have cg := hcg d _ (ints_get (by rw [decidedS_length]; exact hdl))
      rw [H2.out.2.1] at cg
      have rd2 := HB.out.1.below b2
      have hv2 := (b2.block _ (heap_lt HB.out.2)).trans HB.out.2
      have H3 := Lib.hid (And.intro rd2 (And.intro hv2 b2))
      clear rd2 hv2 b2 h1 hcg q0 q1 q2 q3 q4 zp f0 f1 f2 f3
      go_wp2_with fail
      obtain ⟨xb, hxb⟩ : ∃ xb, xb = W2.heap.size := ⟨_, rfl⟩
      obtain ⟨W3, hW3⟩ : ∃ W3, W3 = W2.alloc (.cells #[.int .i64 (-1), .int .i64 0] 33) := ⟨_, rfl⟩
      rw [← hxb, ← hW3]
      have hx3 : W3.heap[xb]? = some (.cells #[.int .i64 (-1), .int .i64 0] 33 (0, 0)) := by rw [hW3, hxb]; exact heap_alloc_new _ _
      have b3 : Below W2.heap.size W2 W3 := by rw [hW3]; exact (Below.refl _ _).alloc (Nat.le_refl _) _
      have HX := Lib.hid (And.intro hx3 (And.intro b3 hxb))
      clear hxb hW3 hx3 b3
      go_loopw [11] (fun i wr => ∃ k : Nat, k ≤ d + 1 ∧ (j = 0 → k = 0) ∧ i = .int .i64 k ∧ Below W2.heap.size W2 wr ∧ wr.heap[xb]? = some (.cells #[.int .i64 (rwLo (rwit p days (keptS p days) d j k)), .int .i64 (rwHi p.hold (rwit p days (keptS p days) d j k))] 33 (0, 0))) (fun i _ => d + 1 - (intOf i).toNat)
      case atStart => exact ⟨0, by omega, fun _ => rfl, rfl, HX.out.2.1, HX.out.1⟩
      case round =>
        obtain ⟨k, hk, hk0, rfl, hb, hxh⟩ := hrel
        obtain ⟨ro, hro⟩ : ∃ ro, ro = rwit p days (keptS p days) d j k := ⟨_, rfl⟩
        rw [← hro] at hxh
        obtain ⟨a, ha⟩ : ∃ a, a = rwLo ro := ⟨_, rfl⟩
        obtain ⟨b, hbb⟩ : ∃ b, b = rwHi p.hold ro := ⟨_, rfl⟩
        rw [← ha, ← hbb] at hxh
        have rdw := H3.out.1.below hb
        have hrw := (hb.block _ (heap_lt H3.out.2.1)).trans H3.out.2.1
        have hrx : rb ≠ xb := by have h5 := heap_lt H3.out.2.1; have h6 := HX.out.2.2; omega
        have x0 := (cell_of_heap hxh 0).trans rfl
        have x1 := (cell_of_heap hxh 1).trans rfl
        have y0 := frozen_of_heap hxh 0
        have y1 := frozen_of_heap hxh 1
        have zx := heap_lt hxh
        have f0 := (cell_of_heap hrw 0).trans rfl
        have f1 := (cell_of_heap hrw 1).trans rfl
        have f2 := frozen_of_heap hrw 0
        have f3 := frozen_of_heap hrw 1
        have HS := Lib.hid (And.intro hro (And.intro ha (And.intro hbb (And.intro rdw (And.intro hrw (And.intro hxh (And.intro hb hk0)))))))
        clear hro ha hbb rdw hrw hxh hb hk0
        by_cases hgo : 0 < j ∧ k ≤ d
        · obtain ⟨hj0, hkd⟩ := hgo
          have hj0' : (0 : Int) < (j : Int) := by omega
          have hkd' : (k : Int) ≤ (d : Int) := by omega
          obtain ⟨q0, q1, q2, q3, q4, zp⟩ := HS.out.2.2.2.1.cells
          obtain ⟨h, hh⟩ : ∃ h, h = p.hold := ⟨_, rfl⟩
          rw [← hh] at q1
          have hh1 : 1 ≤ h := by omega
          have hh2 : h ≤ 30 := by omega
          obtain ⟨r, hr⟩ : ∃ r, r = showsS p days (keptS p days) d j k ((k : Int) + h - 1) := ⟨_, rfl⟩
          have hsh : Calls Tryz.prog 83 #[.agg #[.slice As p.steps.length cs, .int .i64 h, .int .i64 p.calm, .int .i64 p.notice, .int .i64 p.grace], .slice A days.length c, .int .i64 d, .int .i64 j, .agg #[.int .i64 k, .int .i64 ((k : Int) + h - 1)]] (wr.alloc (.cells #[.int .i64 k, .int .i64 ((k : Int) + h - 1)] 33))
              fun e w' => e = .returned (.bool r) ∧ Below wr.heap.size wr w' ∧ w'.heap[wr.heap.size]? = some (.cells #[.int .i64 k, .int .i64 ((k : Int) + h - 1)] 33 (0, 0)) ∧ w'.heap[xb]? = some (.cells #[.int .i64 a, .int .i64 b] 33 (0, 0)) := by
            have bk : Below wr.heap.size wr (wr.alloc (.cells #[.int .i64 k, .int .i64 ((k : Int) + h - 1)] 33)) := (Below.refl _ _).alloc (Nat.le_refl _) _
            have := rshows_any As cs p A c days d j k ((k : Int) + h - 1) _ (HS.out.2.2.2.1.below bk).pol (HS.out.2.2.2.1.below bk).dys H2.out.2.2 hl4 hdl hjl
            rw [← hh] at this
            refine this.mono ?_
            rintro e w4 ⟨rfl, b4⟩
            have bb : Below wr.heap.size wr w4 := bk.trans (b4.mono (by simp))
            exact ⟨by rw [hr], bb, (b4.block _ (by simp)).trans (heap_alloc_new _ _), (bb.block _ (heap_lt HS.out.2.2.2.2.2.1)).trans HS.out.2.2.2.2.2.1⟩
          have HC := Lib.hid (And.intro hr (And.intro hsh hh))
          clear hr hsh hh
          cases r
          · go_wp2_with (go_at_call 83; refine HC.out.2.1.mono ?_; rintro e w4 ⟨rfl, b4, h4, h5⟩; have HB4 := Lib.hid (And.intro b4 h5); clear b4 h4 h5)
            go_roundw
            case measure => simp [intOf]; omega
            case rel =>
              have he : rwit p days (keptS p days) d j (k + 1) = ro := by rw [rwit, ← HC.out.2.2, ← HC.out.1, HS.out.1]; rfl
              exact ⟨k + 1, by omega, fun h => by omega, by go_num, HS.out.2.2.2.2.2.2.1.trans (HB4.out.1.mono HS.out.2.2.2.2.2.2.1.size), by rw [he, ← HS.out.2.1, ← HS.out.2.2.1]; exact HB4.out.2⟩
          · go_wp2_with (go_at_call 83; refine HC.out.2.1.mono ?_; rintro e w4 ⟨rfl, b4, h4, h5⟩; have m0 := (cell_of_heap h4 0).trans rfl; have m1 := (cell_of_heap h4 1).trans rfl; have x0 := (cell_of_heap h5 0).trans rfl; have x1 := (cell_of_heap h5 1).trans rfl; have y0 := frozen_of_heap h5 0; have y1 := frozen_of_heap h5 1; have HB4 := Lib.hid (And.intro b4 h5); clear b4 h4 h5)
            go_roundw
            case measure => simp [intOf]; omega
            case rel =>
              have he : rwit p days (keptS p days) d j (k + 1) = some k := by rw [rwit, ← HC.out.2.2, ← HC.out.1]; rfl
              have bb := HS.out.2.2.2.2.2.2.1.trans (HB4.out.1.mono HS.out.2.2.2.2.2.2.1.size)
              have h6 := HX.out.2.2
              refine ⟨k + 1, by omega, fun h => by omega, by go_num, (bb.setCell (by simp; omega) _).setCell (by simp; omega) _, ?_⟩
              rw [he]
              have h7 := span_cells HB4.out.2 (.int .i64 (k : Int)) (.int .i64 ((k : Int) + h - 1))
              rw [HC.out.2.2] at h7
              simp only [rwLo, rwHi]
              rw [HC.out.2.2]
              exact h7
        · have hend : rwit p days (keptS p days) d j k = if j = 0 then none else rwit p days (keptS p days) d j (d + 1) := by
            by_cases h : j = 0
            · rw [if_pos h, HS.out.2.2.2.2.2.2.2 h]; rfl
            · rw [if_neg h, show k = d + 1 from by omega]
          have hwr : witR p days d = rwRes p.hold ro := by
            rw [wit_go HK.out HD.out.1.symm, Int.toNat_natCast, H2.out.2.1, HS.out.1, hend]
            by_cases h : j = 0
            · rw [if_pos (by omega), if_pos h]; rfl
            · rw [if_neg (by omega), if_neg h, ← rwit_all ck3]
              cases rwit p days (keptS p days) d j (d + 1) <;> rfl
          have HE := Lib.hid (And.intro hwr hrx)
          have hrbb : w.heap.size ≤ rb := by have := HR.out.2.2.2.2; omega
          have bel := HB.out.1.bel.trans ((H3.out.2.2.trans (HS.out.2.2.2.2.2.2.1.mono H3.out.2.2.size)).mono HB.out.1.bel.size)
          have HBL := Lib.hid bel
          clear hend hwr bel
          by_cases hj0 : j = 0
          case' pos => have hg1 : ¬ (0 : Int) < (j : Int) := by omega
          case' neg => (have hg1 : (0 : Int) < (j : Int) := by omega); have hg2 : ¬ (k : Int) ≤ (d : Int) := by omega
          all_goals
            cases ro with
            | none =>
              have ha : a = -1 := HS.out.2.1
              subst ha
              go_wp2_with fail
              have k0 := cell_of_heap (span_cells HS.out.2.2.2.2.1 (.int .i64 0) (.int .i64 0)) 0
              have k1 := cell_of_heap (span_cells HS.out.2.2.2.2.1 (.int .i64 0) (.int .i64 0)) 1
              refine bodyPost_ret (v := .tuple #[.agg #[.int .i64 0, .int .i64 0], .int .i64 4]) (by simp [results, Tryz.results33, go_sem, k0, k1]) rfl ?_
              exact ⟨by rw [HE.out.1]; rfl, (HBL.out.setCell (by exact hrbb) _).setCell (by exact hrbb) _⟩
            | some lo =>
              have ha : a = (lo : Int) := HS.out.2.1
              subst ha
              have hlo0 : ¬ (lo : Int) < 0 := by omega
              go_wp2_with fail
              have k0 := cell_of_heap (span_cells HS.out.2.2.2.2.1 (.int .i64 lo) (.int .i64 b)) 0
              have k1 := cell_of_heap (span_cells HS.out.2.2.2.2.1 (.int .i64 lo) (.int .i64 b)) 1
              refine bodyPost_ret (v := .tuple #[.agg #[.int .i64 lo, .int .i64 b], .int .i64 0]) (by simp [results, Tryz.results33, go_sem, k0, k1]) rfl ?_
              exact ⟨by rw [HE.out.1, HS.out.2.2.1]; rfl, (HBL.out.setCell (by exact hrbb) _).setCell (by exact hrbb) _⟩
  · have hne : (er != 0) = true := by simp [h0]
    have HK := Lib.hid h0
    clear h0
    go_wp2_with fail
    have k0 := cell_of_heap (span_cells HB.out.2 (.int .i64 0) (.int .i64 0)) 0
    have k1 := cell_of_heap (span_cells HB.out.2 (.int .i64 0) (.int .i64 0)) 1
    refine bodyPost_ret (v := .tuple #[.agg #[.int .i64 0, .int .i64 0], .int .i64 er]) (by simp [results, Tryz.results33, go_sem, k0, k1]) rfl ?_
    refine ⟨by rw [wit_start (by rw [← HR.out.2.2.1]; exact HK.out), ← HR.out.2.2.1], ?_⟩
    have := HR.out.2.2.2.2
    exact (HB.out.1.bel.setCell (by simp; omega) _).setCell (by simp; omega) _
end Go.Proofs.YtbgnkljjgfcngaaGreat
