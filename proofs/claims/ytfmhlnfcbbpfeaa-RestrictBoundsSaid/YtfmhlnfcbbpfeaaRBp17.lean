/- polynyaref08: Shows, Witness -/
import Derived.Test.YtfmhlnfcbbpfeaaRBp16
import Derived.Test.YtfmhlnfcbbpfeaaRBp9
import Derived.Test.YtfmhlnfcbbpfeaaRBp10
import Derived.IntWalk
import Derived.Test.YtfmhlnfcbbpfeaaRBp12
import Derived.Sort.QuietIn
set_option linter.unusedVariables false
namespace Go.Proofs.Ytfmhlnfcbbpfeaa
open Go Go.RowKit Sp
set_option linter.unusedVariables false

set_option maxRecDepth 100000 in
set_option maxHeartbeats 4000000 in
theorem rShows_any (As : Option Addr) (cs : Nat) (p : Pol) (A : Option Addr) (c : Nat) (days : List Int) (day step lo hi : Int) (w : World) (hp : PolV w As cs p) (hr : Rd w 1 A days.length (ints days)) (hm : days.length ≤ 9223372036854775807) :
    Calls Try.prog 44 #[.agg #[.slice As p.steps.length cs, .int .i64 p.hold, .int .i64 p.calm, .int .i64 p.notice, .int .i64 p.grace], .slice A days.length c, .int .i64 day, .int .i64 step, .agg #[.int .i64 lo, .int .i64 hi]] w (ShowsPost w p days day step lo hi) := by
  have rd0 := RD.new (A := A) (days := days) hp hr
  obtain ⟨W1, hW1⟩ : ∃ W, W = w.alloc (.cells #[.slice As p.steps.length cs, .int .i64 p.hold, .int .i64 p.calm, .int .i64 p.notice, .int .i64 p.grace] 70) := ⟨_, rfl⟩
  obtain ⟨ob, hob⟩ : ∃ ob, ob = w.heap.size := ⟨_, rfl⟩
  rw [← hW1, ← hob] at rd0
  obtain ⟨W, hW⟩ : ∃ W, W = W1.alloc (.cells #[.int .i64 lo, .int .i64 hi] 42) := ⟨_, rfl⟩
  obtain ⟨vb, hvb⟩ : ∃ vb, vb = W1.heap.size := ⟨_, rfl⟩
  have hvb2 : vb = ob + 1 := by rw [hvb, hW1, hob]; simp
  have hvh : W.heap[vb]? = some (.cells #[.int .i64 lo, .int .i64 hi] 42 (0, 0)) := by rw [hW, hvb]; exact heap_alloc_new _ _
  have rdW : RD w W ob As cs p A days := rd0.below (by rw [hW]; exact (Below.refl _ _).alloc (Nat.le_refl _) _)
  obtain ⟨er, her⟩ : ∃ er, er = startS p days := ⟨_, rfl⟩
  have k1 := begun_any As cs p A c days W rdW.pol rdW.dys hm
  rw [← her] at k1
  obtain ⟨q0, q1, q2, q3, q4, zp⟩ := rdW.cells
  obtain ⟨dr, hdr⟩ : ∃ dr, dr = within day 0 ((days.length : Int) - 1) := ⟨_, rfl⟩
  have in1 : ∀ wx, Calls Try.prog 92 #[.int .i64 day, .int .i64 0, .int .i64 ((days.length : Int) - 1)] wx fun e w' => e = .returned (.bool dr) ∧ wx = w' := fun wx => by rw [hdr]; exact rin_any day 0 _ wx
  obtain ⟨sr, hsr⟩ : ∃ sr, sr = within step 0 ((p.steps.length : Int) - 1) := ⟨_, rfl⟩
  have in2 : ∀ wx, Calls Try.prog 92 #[.int .i64 step, .int .i64 0, .int .i64 ((p.steps.length : Int) - 1)] wx fun e w' => e = .returned (.bool sr) ∧ wx = w' := fun wx => by rw [hsr]; exact rin_any step 0 _ wx
  have HR := Lib.hid (And.intro rdW (And.intro k1 (And.intro her hvh)))
  have HD := Lib.hid (And.intro hdr (And.intro hsr (And.intro in1 in2)))
  have hps : p.steps.length ≤ 9223372036854775807 := by have h1 := hp.1; have h2 := hp.2.1; unfold maxLen at h2; omega
  clear hp hr rd0 rdW k1 her hvh hvb hdr hsr in1 in2
  go_enter Try.func44, Try.ntmps44
  go_upto_region 1 with fail
  rw [← hW1, ← hob, ← hvb2, ← hW]
  clear hW hob hW1 hvb2
  go_wp2_with fail
  refine HR.out.2.1.mono ?_
  rintro e w1 ⟨rfl, b1⟩
  have rd1 := HR.out.1.below b1
  have hv1 := (b1.block _ (heap_lt HR.out.2.2.2)).trans HR.out.2.2.2
  have HB := Lib.hid (And.intro rd1 hv1)
  clear q0 q1 q2 q3 q4 zp b1 rd1 hv1
  by_cases h0 : er = 0
  · subst h0
    have hs : startS p days = 0 := HR.out.2.2.1.symm
    have HK := Lib.hid hs
    clear hs
    cases dr
    · go_wp2_with fail
      refine (HD.out.2.2.1 _).mono ?_
      rintro e w2 ⟨rfl, rfl⟩
      go_wp2_with fail
      go_ret2
      have he : shE p days day step = 6 := sh_day HK.out HD.out.1.symm
      exact ⟨by rw [shB, he]; rfl, HB.out.1.bel⟩
    · obtain ⟨q0, q1, q2, q3, q4, zp⟩ := HB.out.1.cells
      cases sr
      · go_wp2_with fail
        refine (HD.out.2.2.1 _).mono ?_
        rintro e w2 ⟨rfl, rfl⟩
        go_wp2_with fail
        refine (HD.out.2.2.2 _).mono ?_
        rintro e w2 ⟨rfl, rfl⟩
        go_wp2_with fail
        go_ret2
        have he : shE p days day step = 1 := sh_step HK.out HD.out.1.symm HD.out.2.1.symm
        exact ⟨by rw [shB, he]; rfl, HB.out.1.bel⟩
      · have hlt : 0 ≤ day ∧ day < days.length := by have := HD.out.1; simp [within] at this; omega
        have hlt2 : 0 ≤ step ∧ step < p.steps.length := by have := HD.out.2.1; simp [within] at this; omega
        obtain ⟨d, rfl⟩ : ∃ k : Nat, day = k := ⟨day.toNat, by omega⟩
        obtain ⟨j, rfl⟩ : ∃ k : Nat, step = k := ⟨step.toNat, by omega⟩
        have v0 := (cell_of_heap HB.out.2 0).trans rfl
        have v1 := (cell_of_heap HB.out.2 1).trans rfl
        have zv := heap_lt HB.out.2
        obtain ⟨hck, hl4, _⟩ := start_ok HK.out
        have k2 := rshows_any As cs p A c days d j lo hi w1 HB.out.1.pol HB.out.1.dys hck hl4 (by omega) (by omega)
        have H2 := Lib.hid k2
        clear k2 hck hlt hlt2
        go_wp2_with fail
        refine (HD.out.2.2.1 _).mono ?_
        rintro e w2 ⟨rfl, rfl⟩
        go_wp2_with fail
        refine (HD.out.2.2.2 _).mono ?_
        rintro e w2 ⟨rfl, rfl⟩
        go_wp2_with fail
        refine H2.out.mono ?_
        rintro e w2 ⟨rfl, b2⟩
        have B2 := Lib.hid b2
        clear b2 q0 q1 q2 q3 q4 zp v0 v1 zv
        go_wp2_with fail
        go_ret2
        have he : shE p days d j = 0 := sh_ok HK.out HD.out.1.symm HD.out.2.1.symm
        exact ⟨by rw [shB, he]; rfl, HB.out.1.bel.trans (B2.out.mono HB.out.1.bel.size)⟩
  · have hne : (er != 0) = true := by simp [h0]
    have HK := Lib.hid h0
    clear h0
    go_wp2_with fail
    go_ret2
    have he : shE p days day step = er := by rw [HR.out.2.2.1]; exact sh_start (by rw [← HR.out.2.2.1]; exact HK.out)
    exact ⟨by rw [shB, he, if_neg HK.out]; rfl, HB.out.1.bel⟩

/-- the least days that the reference has found among the first k -/
def rwit (p : Pol) (days kp : List Int) (day step : Int) : Nat → Option Nat
  | 0 => none
  | k + 1 => if showsS p days kp day step k ((k : Int) + p.hold - 1) then some k else rwit p days kp day step k
theorem wit_low {p : Pol} {days kp : List Int} {day step : Int} (h : 1 ≤ p.hold) : ∀ {n : Nat}, (n : Int) < p.hold → wit p days kp day step n = none
  | 0, _ => rfl
  | n + 1, hn => by
    rw [wit, wit_low h (by omega : (n : Int) < p.hold), if_neg]
    rw [showsS, if_pos (.inl (by omega))]; simp
theorem wit_high {p : Pol} {days kp : List Int} {day step : Int} {m : Nat} (hm : day < m) : ∀ k, wit p days kp day step (m + k) = wit p days kp day step m
  | 0 => rfl
  | k + 1 => by
    rw [show m + (k + 1) = (m + k) + 1 from by omega, wit, wit_high hm k, if_neg]
    rw [showsS, if_pos (.inr (.inl (by omega)))]; simp
theorem rwit_wit {p : Pol} {days kp : List Int} {day step : Int} (h : 1 ≤ p.hold) : ∀ k : Nat, (rwit p days kp day step k).map (fun lo => ((lo : Int), (lo : Int) + p.hold - 1)) = wit p days kp day step (k + p.hold.toNat - 1)
  | 0 => by rw [wit_low h (by omega)]; rfl
  | k + 1 => by
    have ih := rwit_wit (p := p) (days := days) (kp := kp) (day := day) (step := step) h k
    rw [show k + 1 + p.hold.toNat - 1 = (k + p.hold.toNat - 1) + 1 from by omega, wit, rwit]
    have e1 : ((k + p.hold.toNat - 1 : Nat) : Int) - p.hold + 1 = k := by omega
    have e2 : ((k + p.hold.toNat - 1 : Nat) : Int) = (k : Int) + p.hold - 1 := by omega
    rw [e1, e2, ← ih]
    split <;> rfl
theorem rwit_all {p : Pol} {days kp : List Int} {d : Nat} {step : Int} (h : 1 ≤ p.hold) : (rwit p days kp d step (d + 1)).map (fun lo => ((lo : Int), (lo : Int) + p.hold - 1)) = wit p days kp d step (d + 1) := by
  rw [rwit_wit h, show d + 1 + p.hold.toNat - 1 = (d + 1) + (p.hold.toNat - 1) from by omega, wit_high (by omega)]
def rwLo (o : Option Nat) : Int := match o with | none => -1 | some k => k
def rwRes (h : Int) (o : Option Nat) : Int × (Int × Int) := match o with | none => (4, 0, 0) | some lo => (0, ((lo : Int), (lo : Int) + h - 1))
def rwHi (h : Int) (o : Option Nat) : Int := match o with | none => 0 | some k => (k : Int) + h - 1

set_option maxRecDepth 100000 in
set_option maxHeartbeats 4000000 in
theorem rWitness_any (As : Option Addr) (cs : Nat) (p : Pol) (A : Option Addr) (c : Nat) (days : List Int) (day : Int) (w : World) (hp : PolV w As cs p) (hr : Rd w 1 A days.length (ints days)) (hm : days.length ≤ 9223372036854775807) :
    Calls Try.prog 43 #[.agg #[.slice As p.steps.length cs, .int .i64 p.hold, .int .i64 p.calm, .int .i64 p.notice, .int .i64 p.grace], .slice A days.length c, .int .i64 day] w (WitPost w p days day) := by
  have rd0 := RD.new (A := A) (days := days) hp hr
  obtain ⟨W1, hW1⟩ : ∃ W, W = w.alloc (.cells #[.slice As p.steps.length cs, .int .i64 p.hold, .int .i64 p.calm, .int .i64 p.notice, .int .i64 p.grace] 70) := ⟨_, rfl⟩
  obtain ⟨ob, hob⟩ : ∃ ob, ob = w.heap.size := ⟨_, rfl⟩
  rw [← hW1, ← hob] at rd0
  obtain ⟨W, hW⟩ : ∃ W, W = W1.alloc (.cells #[.int .i64 0, .int .i64 0] 42) := ⟨_, rfl⟩
  obtain ⟨rb, hrb⟩ : ∃ vb, vb = W1.heap.size := ⟨_, rfl⟩
  have hrb2 : rb = ob + 1 := by rw [hrb, hW1, hob]; simp
  have hrbw : w.heap.size < rb := by rw [hrb2, hob]; omega
  have hvh : W.heap[rb]? = some (.cells #[.int .i64 0, .int .i64 0] 42 (0, 0)) := by rw [hW, hrb]; exact heap_alloc_new _ _
  have rdW : RD w W ob As cs p A days := rd0.below (by rw [hW]; exact (Below.refl _ _).alloc (Nat.le_refl _) _)
  obtain ⟨er, her⟩ : ∃ er, er = startS p days := ⟨_, rfl⟩
  have k1 := begun_any As cs p A c days W rdW.pol rdW.dys hm
  rw [← her] at k1
  obtain ⟨q0, q1, q2, q3, q4, zp⟩ := rdW.cells
  obtain ⟨dr, hdr⟩ : ∃ dr, dr = within day 0 ((days.length : Int) - 1) := ⟨_, rfl⟩
  have in1 : ∀ wx, Calls Try.prog 92 #[.int .i64 day, .int .i64 0, .int .i64 ((days.length : Int) - 1)] wx fun e w' => e = .returned (.bool dr) ∧ wx = w' := fun wx => by rw [hdr]; exact rin_any day 0 _ wx
  have HR := Lib.hid (And.intro rdW (And.intro k1 (And.intro her (And.intro hvh hrbw))))
  have HD := Lib.hid (And.intro hdr in1)
  clear hp hr rd0 rdW k1 her hvh hrb hdr in1 hrbw
  go_enter Try.func43, Try.ntmps43
  go_upto_region 1 with fail
  rw [← hW1, ← hob, ← hrb2, ← hW]
  clear hW hob hW1 hrb2
  go_wp2_with fail
  refine HR.out.2.1.mono ?_
  rintro e w1 ⟨rfl, b1⟩
  have rd1 := HR.out.1.below b1
  have hv1 := (b1.block _ (heap_lt HR.out.2.2.2.1)).trans HR.out.2.2.2.1
  have f0 := (cell_of_heap hv1 0).trans rfl
  have f1 := (cell_of_heap hv1 1).trans rfl
  have f2 := frozen_of_heap hv1 0
  have f3 := frozen_of_heap hv1 1
  have HB := Lib.hid (And.intro rd1 hv1)
  clear q0 q1 q2 q3 q4 zp b1 rd1 hv1
  by_cases h0 : er = 0
  · subst h0
    have hs : startS p days = 0 := HR.out.2.2.1.symm
    have HK := Lib.hid hs
    clear hs
    cases dr
    · go_wp2_with fail
      refine (HD.out.2 _).mono ?_
      rintro e w2 ⟨rfl, rfl⟩
      go_wp2_with fail
      have k0 := cell_of_heap (span_cells HB.out.2 (.int .i64 0) (.int .i64 0)) 0
      have k1 := cell_of_heap (span_cells HB.out.2 (.int .i64 0) (.int .i64 0)) 1
      refine bodyPost_ret (v := .tuple #[.agg #[.int .i64 0, .int .i64 0], .int .i64 6]) (by simp [results, Try.results43, go_sem, k0, k1]) rfl ?_
      refine ⟨by rw [wit_day HK.out HD.out.1.symm], ?_⟩
      have := HR.out.2.2.2.2
      exact (HB.out.1.bel.setCell (by simp; omega) _).setCell (by simp; omega) _
    · have hlt : 0 ≤ day ∧ day < days.length := by have := HD.out.1; simp [within] at this; omega
      obtain ⟨d, rfl⟩ : ∃ k : Nat, day = k := ⟨day.toNat, by omega⟩
      obtain ⟨hck, hl4, _⟩ := start_ok HK.out
      have hdl : d < days.length := by omega
      have hdI : (d : Int) < (days.length : Int) := by omega
      obtain ⟨j, hj⟩ : ∃ j : Nat, (decidedS p days).getD d 0 = (j : Int) := by
        have := (dec_step hck days d).1
        exact ⟨((decidedS p days).getD d 0).toNat, by omega⟩
      have hjl : j < p.steps.length := by have := (dec_step hck days d).2; rw [hj] at this; omega
      obtain ⟨_, _, ck3, ck4, _⟩ := check_ok hck
      have k2 := rdecided_any As cs p A c days w1 HB.out.1.pol HB.out.1.dys hck hl4
      obtain ⟨q0, q1, q2, q3, q4, zp⟩ := HB.out.1.cells
      have H2 := Lib.hid (And.intro k2 (And.intro hj hck))
      clear k2 hj hck hlt
      go_wp2_with fail
      refine (HD.out.2 _).mono ?_
      rintro e w2 ⟨rfl, rfl⟩
      go_wp2_with fail
      refine H2.out.1.mono ?_
      rintro e W2 ⟨A2, c2, rfl, h1, _, _, b2⟩
      obtain ⟨g, o, rfl, zg, hcg⟩ := h1.2 (by omega)
      have cg := hcg d _ (ints_get (by rw [decidedS_length]; exact hdl))
      rw [H2.out.2.1] at cg
      have rd2 := HB.out.1.below b2
      have hv2 := (b2.block _ (heap_lt HB.out.2)).trans HB.out.2
      have H3 := Lib.hid (And.intro rd2 (And.intro hv2 b2))
      clear rd2 hv2 b2 h1 hcg q0 q1 q2 q3 q4 zp f0 f1 f2 f3
      go_wp2_with fail
      obtain ⟨xb, hxb⟩ : ∃ xb, xb = W2.heap.size := ⟨_, rfl⟩
      obtain ⟨W3, hW3⟩ : ∃ W3, W3 = W2.alloc (.cells #[.int .i64 (-1), .int .i64 0] 42) := ⟨_, rfl⟩
      rw [← hxb, ← hW3]
      have hx3 : W3.heap[xb]? = some (.cells #[.int .i64 (-1), .int .i64 0] 42 (0, 0)) := by rw [hW3, hxb]; exact heap_alloc_new _ _
      have b3 : Below W2.heap.size W2 W3 := by rw [hW3]; exact (Below.refl _ _).alloc (Nat.le_refl _) _
      have HX := Lib.hid (And.intro hx3 (And.intro b3 hxb))
      clear hxb hW3 hx3 b3
      go_loopw [11] (fun i wr => ∃ k : Nat, k ≤ d + 1 ∧ (j = 0 → k = 0) ∧ i = .int .i64 k ∧ Below W2.heap.size W2 wr ∧ wr.heap[xb]? = some (.cells #[.int .i64 (rwLo (rwit p days (keptS p days) d j k)), .int .i64 (rwHi p.hold (rwit p days (keptS p days) d j k))] 42 (0, 0))) (fun i _ => d + 1 - (intOf i).toNat)
      case atStart => exact ⟨0, by omega, fun _ => rfl, rfl, HX.out.2.1, HX.out.1⟩
      case round =>
        obtain ⟨k, hk, hk0, rfl, hb, hxh⟩ := hrel
        obtain ⟨ro, hro⟩ : ∃ ro, ro = rwit p days (keptS p days) d j k := ⟨_, rfl⟩
        rw [← hro] at hxh
        obtain ⟨a, ha⟩ : ∃ a, a = rwLo ro := ⟨_, rfl⟩
        obtain ⟨b, hbb⟩ : ∃ b, b = rwHi p.hold ro := ⟨_, rfl⟩
        rw [← ha, ← hbb] at hxh
        have rdw := H3.out.1.below hb
        have hrw := (hb.block _ (heap_lt H3.out.2.1)).trans H3.out.2.1
        have hrx : rb ≠ xb := by have h5 := heap_lt H3.out.2.1; have h6 := HX.out.2.2; omega
        have x0 := (cell_of_heap hxh 0).trans rfl
        have x1 := (cell_of_heap hxh 1).trans rfl
        have y0 := frozen_of_heap hxh 0
        have y1 := frozen_of_heap hxh 1
        have zx := heap_lt hxh
        have f0 := (cell_of_heap hrw 0).trans rfl
        have f1 := (cell_of_heap hrw 1).trans rfl
        have f2 := frozen_of_heap hrw 0
        have f3 := frozen_of_heap hrw 1
        have HS := Lib.hid (And.intro hro (And.intro ha (And.intro hbb (And.intro rdw (And.intro hrw (And.intro hxh (And.intro hb hk0)))))))
        clear hro ha hbb rdw hrw hxh hb hk0
        by_cases hgo : 0 < j ∧ k ≤ d
        · obtain ⟨hj0, hkd⟩ := hgo
          have hj0' : (0 : Int) < (j : Int) := by omega
          have hkd' : (k : Int) ≤ (d : Int) := by omega
          obtain ⟨q0, q1, q2, q3, q4, zp⟩ := HS.out.2.2.2.1.cells
          obtain ⟨h, hh⟩ : ∃ h, h = p.hold := ⟨_, rfl⟩
          rw [← hh] at q1
          have hh1 : 1 ≤ h := by omega
          have hh2 : h ≤ 30 := by omega
          obtain ⟨r, hr⟩ : ∃ r, r = showsS p days (keptS p days) d j k ((k : Int) + h - 1) := ⟨_, rfl⟩
          have hsh : Calls Try.prog 96 #[.agg #[.slice As p.steps.length cs, .int .i64 h, .int .i64 p.calm, .int .i64 p.notice, .int .i64 p.grace], .slice A days.length c, .int .i64 d, .int .i64 j, .agg #[.int .i64 k, .int .i64 ((k : Int) + h - 1)]] (wr.alloc (.cells #[.int .i64 k, .int .i64 ((k : Int) + h - 1)] 42))
              fun e w' => e = .returned (.bool r) ∧ Below wr.heap.size wr w' ∧ w'.heap[wr.heap.size]? = some (.cells #[.int .i64 k, .int .i64 ((k : Int) + h - 1)] 42 (0, 0)) ∧ w'.heap[xb]? = some (.cells #[.int .i64 a, .int .i64 b] 42 (0, 0)) := by
            have bk : Below wr.heap.size wr (wr.alloc (.cells #[.int .i64 k, .int .i64 ((k : Int) + h - 1)] 42)) := (Below.refl _ _).alloc (Nat.le_refl _) _
            have := rshows_any As cs p A c days d j k ((k : Int) + h - 1) _ (HS.out.2.2.2.1.below bk).pol (HS.out.2.2.2.1.below bk).dys H2.out.2.2 hl4 hdl hjl
            rw [← hh] at this
            refine this.mono ?_
            rintro e w4 ⟨rfl, b4⟩
            have bb : Below wr.heap.size wr w4 := bk.trans (b4.mono (by simp))
            exact ⟨by rw [hr], bb, (b4.block _ (by simp)).trans (heap_alloc_new _ _), (bb.block _ (heap_lt HS.out.2.2.2.2.2.1)).trans HS.out.2.2.2.2.2.1⟩
          have HC := Lib.hid (And.intro hr (And.intro hsh hh))
          clear hr hsh hh
          cases r
          · go_wp2_with (go_at_call 96; refine HC.out.2.1.mono ?_; rintro e w4 ⟨rfl, b4, h4, h5⟩; have HB4 := Lib.hid (And.intro b4 h5); clear b4 h4 h5)
            go_roundw
            case measure => simp [intOf]; omega
            case rel =>
              have he : rwit p days (keptS p days) d j (k + 1) = ro := by rw [rwit, ← HC.out.2.2, ← HC.out.1, HS.out.1]; rfl
              exact ⟨k + 1, by omega, fun h => by omega, by go_num, HS.out.2.2.2.2.2.2.1.trans (HB4.out.1.mono HS.out.2.2.2.2.2.2.1.size), by rw [he, ← HS.out.2.1, ← HS.out.2.2.1]; exact HB4.out.2⟩
          · go_wp2_with (go_at_call 96; refine HC.out.2.1.mono ?_; rintro e w4 ⟨rfl, b4, h4, h5⟩; have m0 := (cell_of_heap h4 0).trans rfl; have m1 := (cell_of_heap h4 1).trans rfl; have x0 := (cell_of_heap h5 0).trans rfl; have x1 := (cell_of_heap h5 1).trans rfl; have y0 := frozen_of_heap h5 0; have y1 := frozen_of_heap h5 1; have HB4 := Lib.hid (And.intro b4 h5); clear b4 h4 h5)
            go_roundw
            case measure => simp [intOf]; omega
            case rel =>
              have he : rwit p days (keptS p days) d j (k + 1) = some k := by rw [rwit, ← HC.out.2.2, ← HC.out.1]; rfl
              have bb := HS.out.2.2.2.2.2.2.1.trans (HB4.out.1.mono HS.out.2.2.2.2.2.2.1.size)
              have h6 := HX.out.2.2
              refine ⟨k + 1, by omega, fun h => by omega, by go_num, (bb.setCell (by simp; omega) _).setCell (by simp; omega) _, ?_⟩
              rw [he]
              have h7 := span_cells HB4.out.2 (.int .i64 (k : Int)) (.int .i64 ((k : Int) + h - 1))
              rw [HC.out.2.2] at h7
              simp only [rwLo, rwHi]
              rw [HC.out.2.2]
              exact h7
        · have hend : rwit p days (keptS p days) d j k = if j = 0 then none else rwit p days (keptS p days) d j (d + 1) := by
            by_cases h : j = 0
            · rw [if_pos h, HS.out.2.2.2.2.2.2.2 h]; rfl
            · rw [if_neg h, show k = d + 1 from by omega]
          have hwr : witR p days d = rwRes p.hold ro := by
            rw [wit_go HK.out HD.out.1.symm, Int.toNat_natCast, H2.out.2.1, HS.out.1, hend]
            by_cases h : j = 0
            · rw [if_pos (by omega), if_pos h]; rfl
            · rw [if_neg (by omega), if_neg h, ← rwit_all ck3]
              cases rwit p days (keptS p days) d j (d + 1) <;> rfl
          have HE := Lib.hid (And.intro hwr hrx)
          have hrbb : w.heap.size ≤ rb := by have := HR.out.2.2.2.2; omega
          have bel := HB.out.1.bel.trans ((H3.out.2.2.trans (HS.out.2.2.2.2.2.2.1.mono H3.out.2.2.size)).mono HB.out.1.bel.size)
          have HBL := Lib.hid bel
          clear hend hwr bel
          by_cases hj0 : j = 0
          case' pos => have hg1 : ¬ (0 : Int) < (j : Int) := by omega
          case' neg => (have hg1 : (0 : Int) < (j : Int) := by omega); have hg2 : ¬ (k : Int) ≤ (d : Int) := by omega
          all_goals
            cases ro with
            | none =>
              have ha : a = -1 := HS.out.2.1
              subst ha
              go_wp2_with fail
              have k0 := cell_of_heap (span_cells HS.out.2.2.2.2.1 (.int .i64 0) (.int .i64 0)) 0
              have k1 := cell_of_heap (span_cells HS.out.2.2.2.2.1 (.int .i64 0) (.int .i64 0)) 1
              refine bodyPost_ret (v := .tuple #[.agg #[.int .i64 0, .int .i64 0], .int .i64 4]) (by simp [results, Try.results43, go_sem, k0, k1]) rfl ?_
              exact ⟨by rw [HE.out.1]; rfl, (HBL.out.setCell (by exact hrbb) _).setCell (by exact hrbb) _⟩
            | some lo =>
              have ha : a = (lo : Int) := HS.out.2.1
              subst ha
              have hlo0 : ¬ (lo : Int) < 0 := by omega
              go_wp2_with fail
              have k0 := cell_of_heap (span_cells HS.out.2.2.2.2.1 (.int .i64 lo) (.int .i64 b)) 0
              have k1 := cell_of_heap (span_cells HS.out.2.2.2.2.1 (.int .i64 lo) (.int .i64 b)) 1
              refine bodyPost_ret (v := .tuple #[.agg #[.int .i64 lo, .int .i64 b], .int .i64 0]) (by simp [results, Try.results43, go_sem, k0, k1]) rfl ?_
              exact ⟨by rw [HE.out.1, HS.out.2.2.1]; rfl, (HBL.out.setCell (by exact hrbb) _).setCell (by exact hrbb) _⟩
  · have hne : (er != 0) = true := by simp [h0]
    have HK := Lib.hid h0
    clear h0
    go_wp2_with fail
    have k0 := cell_of_heap (span_cells HB.out.2 (.int .i64 0) (.int .i64 0)) 0
    have k1 := cell_of_heap (span_cells HB.out.2 (.int .i64 0) (.int .i64 0)) 1
    refine bodyPost_ret (v := .tuple #[.agg #[.int .i64 0, .int .i64 0], .int .i64 er]) (by simp [results, Try.results43, go_sem, k0, k1]) rfl ?_
    refine ⟨by rw [wit_start (by rw [← HR.out.2.2.1]; exact HK.out), ← HR.out.2.2.1], ?_⟩
    have := HR.out.2.2.2.2
    exact (HB.out.1.bel.setCell (by simp; omega) _).setCell (by simp; omega) _
end Go.Proofs.Ytfmhlnfcbbpfeaa
/- polynyaref08.Orders -/
namespace Go.Proofs.Ytfmhlnfcbbpfeaa
open Go Go.RowKit Sp
set_option linter.unusedVariables false

theorem infoROrd : (Try.prog.info? 84).map (fun i => (i.zero, i.size, i.bytes)) = some (some (.agg #[.int .i64 0, .int .i64 0, .int .i64 0]), 3, 24) := by kernel_rfl

/-- what the loop of Orders keeps -/
structure ROr (W wr : World) (F : List Int) (no : Int) (k m : Nat) (Ao : Option Addr) (co : Nat) (q : List Nat) : Prop where
  len : m = (ordN F no k).length
  own : OwnS wr 84 3 Ao m co (occs (ordN F no k)) q
  new : ∀ g ∈ q, W.heap.size ≤ g
  keep : Keep [] W wr
theorem ROr.step {W wr w2 w5 : World} {F : List Int} {no : Int} {k m : Nat} {Ao : Option Addr} {co : Nat} {q : List Nat} {x : Ord} {o : Obj} {g c' : Nat} (h : ROr W wr F no k m Ao co q) (he : ordN F no (k + 1) = ordN F no k ++ [x])
    (h0 : Keep [] wr w2) (h1 : OwnS w5 84 3 (some ⟨g, 0, none⟩) (m + 1) c' (occs (ordN F no k) ++ [.int .i64 x.iss, .int .i64 x.frm, .int .i64 x.stp]) [g]) (h2 : g ∈ q ∨ (w2.alloc o).heap.size = g) (h4 : Keep q (w2.alloc o) w5) :
    ROr W w5 F no (k + 1) (m + 1) (some ⟨g, 0, none⟩) c' [g] := by
  refine ⟨by rw [he, List.length_append, ← h.len]; rfl, by rw [he, occs_snoc]; exact h1, fun y hy => ?_, ((h.keep.trans h0 (by simp)).alloc _).trans h4 (fun y hy => .inr (h.new _ hy))⟩
  rw [List.mem_singleton.1 hy]
  rcases h2 with h2 | h2
  · exact h.new _ h2
  · have := h.keep.size; have := h0.size; simp at h2; omega
theorem ROr.same {W wr : World} {F : List Int} {no : Int} {k m : Nat} {Ao : Option Addr} {co : Nat} {q : List Nat} (h : ROr W wr F no k m Ao co q) (he : ordN F no (k + 1) = ordN F no k) : ROr W wr F no (k + 1) m Ao co q :=
  ⟨by rw [he]; exact h.len, by rw [he]; exact h.own, h.new, h.keep⟩
theorem occ_cells (w : World) (x : Ord) (t : TypeId) : ∀ j v, ([.int .i64 x.iss, .int .i64 x.frm, .int .i64 x.stp] : List Value)[j]? = some v → (w.alloc (.cells #[.int .i64 x.iss, .int .i64 x.frm, .int .i64 x.stp] t)).cell? ((⟨w.heap.size, 0, none⟩ : Addr).add j) = some v := by
  intro j v hv
  rw [show (⟨w.heap.size, 0, none⟩ : Addr).add j = ⟨w.heap.size, j, none⟩ from by simp [Addr.add]; omega, World.cell?_alloc_new]
  simpa using hv

def rOrdersL (p : Pol) (days : List Int) : List Ord := if startS p days = 0 then ordersS p days else []
def ROrdersPost (w : World) (p : Pol) (days : List Int) (e : Ending) (w' : World) : Prop :=
  ∃ A1 c1, e = .returned (.tuple #[.slice A1 (rOrdersL p days).length c1, .int .i64 (startS p days)]) ∧ Rd w' 3 A1 (rOrdersL p days).length (occs (rOrdersL p days)) ∧ (rOrdersL p days).length ≤ 400 ∧ Below w.heap.size w w'
set_option maxRecDepth 100000 in
set_option maxHeartbeats 2000000 in
theorem rOrders_any (As : Option Addr) (cs : Nat) (p : Pol) (A : Option Addr) (c : Nat) (days : List Int) (w : World) (hp : PolV w As cs p) (hr : Rd w 1 A days.length (ints days)) (hm : days.length ≤ 9223372036854775807) :
    Calls Try.prog 39 #[.agg #[.slice As p.steps.length cs, .int .i64 p.hold, .int .i64 p.calm, .int .i64 p.notice, .int .i64 p.grace], .slice A days.length c] w (ROrdersPost w p days) := by
  obtain ⟨i0, hi, hz0, hz1, hz2⟩ := info_parts infoROrd
  have rd0 := RD.new (A := A) (days := days) hp hr
  obtain ⟨W, hW⟩ : ∃ W, W = w.alloc (.cells #[.slice As p.steps.length cs, .int .i64 p.hold, .int .i64 p.calm, .int .i64 p.notice, .int .i64 p.grace] 70) := ⟨_, rfl⟩
  obtain ⟨ob, hob⟩ : ∃ ob, ob = w.heap.size := ⟨_, rfl⟩
  rw [← hW, ← hob] at rd0
  obtain ⟨er, her⟩ : ∃ er, er = startS p days := ⟨_, rfl⟩
  have k1 := begun_any As cs p A c days W rd0.pol rd0.dys hm
  rw [← her] at k1
  obtain ⟨q0, q1, q2, q3, q4, zp⟩ := rd0.cells
  have HR := Lib.hid (And.intro rd0 (And.intro k1 her))
  clear hp hr rd0 k1 her
  go_enter Try.func39, Try.ntmps39
  go_upto_region 1 with fail
  rw [← hW, ← hob]
  clear hW hob
  go_wp2_with fail
  refine HR.out.2.1.mono ?_
  rintro e w1 ⟨rfl, b1⟩
  have rd1 := HR.out.1.below b1
  clear q0 q1 q2 q3 q4 zp b1
  by_cases h0 : er = 0
  · subst h0
    have hs : startS p days = 0 := HR.out.2.2.symm
    obtain ⟨hck, hl4, _⟩ := start_ok hs
    obtain ⟨q0, q1, q2, q3, q4, zp⟩ := rd1.cells
    have k2 := rforce_any As cs p A c days w1 rd1.pol rd1.dys hck (by omega)
    have hno := (check_ok hck).2.2.2.2.2.2
    have hn0 := hno.1
    have hn1 := hno.2.1
    have hF0 : ∀ k, 0 ≤ (forceS p days).getD k 0 ∧ (forceS p days).getD k 0 < 100 := fun k => by
      have h6 := (force_step hck days k).1
      have h7 := (force_step hck days k).2
      have h8 := (check_ok hck).2.1
      omega
    have H1 := Lib.hid (And.intro rd1 (And.intro k2 (And.intro hs hF0)))
    clear rd1 k2 hs hck hno hF0
    go_wp2_with fail
    refine H1.out.2.1.mono ?_
    rintro e W2 ⟨Al, cl, rfl, h1, _, _, b2⟩
    have rd2 := H1.out.1.below b2
    obtain ⟨F, hF⟩ : ∃ F, F = forceS p days := ⟨_, rfl⟩
    have hFl : F.length = days.length := by rw [hF, forceS_length]
    rw [← hF] at h1
    have H2 := Lib.hid (And.intro h1 (And.intro rd2 (And.intro hF hFl)))
    clear h1 b2 q0 q1 q2 q3 q4 zp rd2 hF hFl
    go_wp2_with fail
    go_loopw [7, 9, 10] (fun o b i wr => ∃ (k m : Nat) (Ao : Option Addr) (co : Nat) (q : List Nat), k ≤ days.length ∧ i = .int .i64 k ∧ b = .int .i64 (befN F k) ∧ o = .slice Ao m co ∧ ROr W2 wr F p.notice k m Ao co q) (fun _ _ i _ => days.length - (intOf i).toNat)
    case atStart => exact ⟨0, 0, none, 0, [], Nat.zero_le _, rfl, rfl, rfl, rfl, OwnS.nil _ _ _, by simp, Keep.refl _ _⟩
    case round =>
      obtain ⟨k, m, Ao, co, q, hk, rfl, rfl, rfl, hst⟩ := hrel
      obtain ⟨y, hy⟩ : ∃ y, y = befN F k := ⟨_, rfl⟩
      rw [← hy]
      have hml : m ≤ 400 := by have := hst.len; have := ordN_length F p.notice k; omega
      by_cases hlt : k < days.length
      · obtain ⟨bl, ol, rfl, zl, cl'⟩ := H2.out.1.2 (by omega)
        obtain ⟨x, hx⟩ : ∃ x, x = F.getD k 0 := ⟨_, rfl⟩
        have cx := hst.keep.cell (cl' k _ (ints_get (by rw [H2.out.2.2.2]; exact hlt))) (by simp)
        rw [← hx] at cx
        have x0 : 0 ≤ x ∧ x < 100 := by rw [hx, H2.out.2.2.1]; exact H1.out.2.2.2 k
        have y0 : 0 ≤ y ∧ y < 100 := by
          rw [hy]
          cases k with
          | zero => simp [befN]
          | succ k => rw [befN, H2.out.2.2.1]; exact H1.out.2.2.2 k
        obtain ⟨x00, x01⟩ := x0
        obtain ⟨y00, y01⟩ := y0
        have nbl : bl ∉ q := fun hm => by have := hst.new _ hm; omega
        have hbe : befN F (k + 1) = x := by rw [befN, hx]
        have n1 : (0 : Int) ≤ (k : Int) := by omega
        have n2 : (k : Int) < (days.length : Int) := by omega
        have HS := Lib.hid (And.intro hst (And.intro hx (And.intro hy (And.intro hbe nbl))))
        clear cl' hx hy hst hbe nbl
        by_cases hxy : x < y
        · have he : ordN F p.notice (k + 1) = ordN F p.notice k ++ [⟨k, k, x⟩] := by
            rw [ordN, if_neg (by rw [← HS.out.2.1, ← HS.out.2.2.1]; omega), if_neg (by rw [← HS.out.2.1, ← HS.out.2.2.1]; omega), ← HS.out.2.1]
          have HE := Lib.hid he
          clear he
          go_wp2_with (at_builtin
                       refine wpList_append_S (size := 3) rfl (.tmp 32) (.tmp 40) 80 rfl i0 _ 24 Try.underlying80 hi hz0 hz1 (by decide) hz2 rfl (A := Ao) (n := m) (c := co) (xs := occs (ordN F p.notice k)) (fp := q) (by simp [Act.eval]) ⟨wr.heap.size, 0, none⟩ (by simp [Act.eval]) [.int .i64 k, .int .i64 k, .int .i64 x] (HS.out.1.own.alloc _) rfl (occ_cells wr ⟨k, k, x⟩ _) (by simp [Value.oneCell']) (by omega) (by omega) ?_
                       intro g c' w5 h1 h2 h3 h4
                       have d0 : w5.cell? ⟨bl, ol + k, none⟩ = some (.int .i64 x) := h4.cell ((World.cell?_alloc_lt _ _ ⟨bl, ol + k, none⟩ (World.block_lt_of_cell? wr _ cx)).trans cx) HS.out.2.2.2.2
                       have HQ := Lib.hid (HS.out.1.step HE.out (Keep.refl _ _) h1 h2 h4)
                       clear h1 h2 h3 h4)
          go_roundw
          case measure => simp [intOf]; omega
          case rel => exact ⟨k + 1, m + 1, _, c', [g], by omega, by go_num, by rw [HS.out.2.2.2.1], rfl, HQ.out⟩
        · by_cases hyx : y < x
          · have he : ordN F p.notice (k + 1) = ordN F p.notice k ++ [⟨(k : Int) - p.notice, k, x⟩] := by
              rw [ordN, if_neg (by rw [← HS.out.2.1, ← HS.out.2.2.1]; omega), if_pos (by rw [← HS.out.2.1, ← HS.out.2.2.1]; omega), ← HS.out.2.1]
            have HE := Lib.hid he
            clear he
            have rdw := H2.out.2.1.below (HS.out.1.keep.below (Nat.le_refl _) (by simp))
            obtain ⟨q0, q1, q2, q3, q4, zp⟩ := rdw.cells
            have KC : ∀ {b o : Nat} {u : Value}, b < W2.heap.size → wr.cell? ⟨b, o, none⟩ = some u → ∀ w', Keep q wr w' → w'.cell? ⟨b, o, none⟩ = some u := fun hb h w' hk => hk.cell h (fun hm => by have := HS.out.1.new _ hm; omega)
            have q3' := KC H2.out.2.1.cells.2.2.2.2.2 q3
            have cx' := KC zl cx
            have w1 : IntKind.i64.wrap ((k : Int) - p.notice) = (k : Int) - p.notice := IntWalk.i64_in _ (by omega)
            clear KC q0 q1 q2 q3 q4 zp rdw
            go_upto_region 13 with fail
            go_region_held3 (fun w' => Keep q wr w') (first | exact (Keep.refl _ _).drew | assumption | exact ((Keep.refl _ _).drew).alloc _)
              ((refine step_append_S (size := 3) rfl (.tmp 48) (.tmp 59) 80 rfl i0 _ 24 Try.underlying80 hi hz0 hz1 (by decide) hz2 rfl (A := Ao) (n := m) (c := co) (xs := occs (ordN F p.notice k)) (fp := q) (by simp [Act.eval]) ⟨wr.heap.size, 0, none⟩ (by simp [Act.eval]) [.int .i64 ((k : Int) - p.notice), .int .i64 k, .int .i64 x] ((HS.out.1.own.keepS ((Keep.refl [] wr).drew) (by simp)).alloc _) rfl (occ_cells wr.drew ⟨(k : Int) - p.notice, k, x⟩ _) (by simp [Value.oneCell']) (by omega) (by omega) ?_
                intro g c' w5 h1 h2 h3 h4
                have K5 : Keep q wr w5 := (((Keep.refl q wr).drew).alloc _).trans h4 (fun y hy => .inl hy)
                have d0 := cx' w5 K5
                have HQ := Lib.hid (HS.out.1.step HE.out ((Keep.refl [] wr).drew) h1 h2 h4)
                clear h1 h2 h3 h4))
            go_wp2_with fail
            go_roundw
            case measure => simp [intOf]; omega
            case rel => exact ⟨k + 1, m + 1, _, c', [g], by omega, by go_num, by rw [HS.out.2.2.2.1], rfl, HQ.out⟩
          · obtain rfl : x = y := by omega
            have he : ordN F p.notice (k + 1) = ordN F p.notice k := by rw [ordN, if_pos (by rw [← HS.out.2.1, ← HS.out.2.2.1])]
            have HE := Lib.hid he
            clear he
            go_wp2_with fail
            go_roundw
            case measure => simp [intOf]; omega
            case rel => exact ⟨k + 1, m, Ao, co, q, by omega, by go_num, by rw [HS.out.2.2.2.1], rfl, HS.out.1.same HE.out⟩
      · obtain rfl : k = days.length := by omega
        have HS := Lib.hid hst
        clear hst
        go_wp2_with fail
        go_ret2
        have hL : rOrdersL p days = ordN F p.notice days.length := by unfold rOrdersL; rw [if_pos H1.out.2.2.1, ordersS, H2.out.2.2.1]
        refine ⟨Ao, co, by rw [hL, ← HS.out.len, H1.out.2.2.1]; rfl, by rw [hL]; have := HS.out.own.rd; rwa [HS.out.len] at this, by rw [hL, ← HS.out.len]; exact hml, H2.out.2.1.bel.trans (HS.out.keep.below H2.out.2.1.bel.size (by simp))⟩
  · have hne : (er != 0) = true := by simp [h0]
    have HK := Lib.hid (And.intro h0 rd1.bel)
    clear h0 rd1
    go_wp2_with fail
    go_ret2
    have hL : rOrdersL p days = [] := by unfold rOrdersL; rw [if_neg (by rw [← HR.out.2.2]; exact HK.out.1)]
    exact ⟨none, 0, by rw [hL, ← HR.out.2.2]; rfl, by rw [hL]; exact Rd.nil _ _ _, by rw [hL]; simp, HK.out.2⟩
end Go.Proofs.Ytfmhlnfcbbpfeaa
/- slices.EqualFunc of orders with those of the reference -/
namespace Go.Proofs.Ytfmhlnfcbbpfeaa
open Go Go.RowKit Sp
set_option linter.unusedVariables false

theorem rord_eql (x : Ord) (w : World) : (binOp .eql 84 (.agg #[.int .i64 x.iss, .int .i64 x.frm, .int .i64 x.stp]) (.agg #[.int .i64 x.iss, .int .i64 x.frm, .int .i64 x.stp])).run Try.prog w = .ok (.bool true) w := by
  have u3 := Try.underlying3
  have a3 := Try.isAgg3
  have z3 := Try.sizeOf3
  have hS : Try.prog.underlying 84 = some (.struct (Try.prog.fieldsOf 84)) := by kernel_rfl
  have hp : Try.prog.stoodInHeld 84 = false := by kernel_rfl
  rw [run_eql_struct, show (10000 : Nat) = 9999 + 1 from rfl, run_equalIn_agg w 9999 84 _ _ hS hp]
  simp only [Program.fieldsOf, Try.underlying84]
  go_simp
theorem rord_neq (x y : Ord) (w : World) : (binOp .neq 84 (.agg #[.int .i64 x.iss, .int .i64 x.frm, .int .i64 x.stp]) (.agg #[.int .i64 y.iss, .int .i64 y.frm, .int .i64 y.stp])).run Try.prog w = .ok (.bool (!decide (x = y))) w := by
  have u3 := Try.underlying3
  have a3 := Try.isAgg3
  have z3 := Try.sizeOf3
  have hS : Try.prog.underlying 84 = some (.struct (Try.prog.fieldsOf 84)) := by kernel_rfl
  have hp : Try.prog.stoodInHeld 84 = false := by kernel_rfl
  rw [run_neq_struct, show (10000 : Nat) = 9999 + 1 from rfl, run_equalIn_agg w 9999 84 _ _ hS hp]
  simp only [Program.fieldsOf, Try.underlying84]
  go_simp
  obtain ⟨a, b, c⟩ := x
  obtain ⟨a', b', c'⟩ := y
  by_cases h1 : a = a' <;> by_cases h2 : b = b' <;> by_cases h3 : c = c' <;> simp [h1, h2, h3]

theorem steps1_any (x : Ord) (w : World) :
    Calls Try.prog 41 #[.agg #[.int .i64 x.iss, .int .i64 x.frm, .int .i64 x.stp], .agg #[.int .i64 x.iss, .int .i64 x.frm, .int .i64 x.stp]] w fun e w' => e = .returned (.bool true) ∧ Below w.heap.size w w' := by
  have he := fun w => rord_eql x w
  go_enter Try.func41, Try.ntmps41
  go_wp2_with fail
  go_ret
  exact ⟨rfl, ((Below.refl _ _).alloc (Nat.le_refl _) _).alloc (by simp) _⟩

set_option maxRecDepth 100000 in
set_option maxHeartbeats 1000000 in
theorem eqFuncOrd_same (A : Option Addr) (c : Nat) (l : List Ord) (B : Option Addr) (d : Nat) (w : World) (hr : Rd w 3 A l.length (occs l)) (hr2 : Rd w 3 B l.length (occs l)) (hm : l.length ≤ 9223372036854775807) :
    Calls Try.prog 40 #[.slice A l.length c, .slice B l.length d, .func (.func 41) #[] #[]] w fun e w' => e = .returned (.bool true) ∧ Below w.heap.size w w' := by
  go_enter Try.func40, Try.ntmps40
  go_wp2_with fail
  go_loopg [17] (l.length) (fun g i wr => ∃ k : Nat, g + k = l.length ∧ i = .int .i64 k ∧ Keep [] w wr)
  case atStart => exact ⟨0, rfl, rfl, Keep.refl _ _⟩
  case round =>
    obtain ⟨k, hk, rfl, hK⟩ := hrel
    have HB := Lib.hid hK
    by_cases hlt : k < l.length
    · obtain ⟨b, off, rfl, hbb, hc⟩ := hr.2 (by omega)
      obtain ⟨b2, off2, rfl, hbb2, hc2⟩ := hr2.2 (by omega)
      obtain ⟨x, hx'⟩ : ∃ x, x = l[k] := ⟨_, rfl⟩
      obtain ⟨s0, s1, s2⟩ := occs_get hlt
      rw [← hx'] at s0 s1 s2
      have bk : ∀ o u, w.cell? ⟨b, o, none⟩ = some u → wr.cell? ⟨b, o, none⟩ = some u := fun o u h => hK.cell h (by simp)
      have bk2 : ∀ o u, w.cell? ⟨b2, o, none⟩ = some u → wr.cell? ⟨b2, o, none⟩ = some u := fun o u h => hK.cell h (by simp)
      have c0 := bk (off + k*3) _ (hc _ _ s0)
      have c1 := bk (off + k*3 + 1) _ (hc _ _ s1)
      have c2 := bk (off + k*3 + 2) _ (hc _ _ s2)
      have d0 := bk2 (off2 + k*3) _ (hc2 _ _ s0)
      have d1 := bk2 (off2 + k*3 + 1) _ (hc2 _ _ s1)
      have d2 := bk2 (off2 + k*3 + 2) _ (hc2 _ _ s2)
      have z1 := World.block_lt_of_cell? wr _ c0
      have z2 := World.block_lt_of_cell? wr _ d0
      have hkI : (0 : Int) ≤ (k : Int) ∧ (k : Int) < (l.length : Int) := by omega
      clear bk bk2 s0 s1 s2 hx' hK hc hc2 hr hr2
      go_wp2_with fail
      refine (steps1_any x _).mono ?_
      rintro e w2 ⟨rfl, hB⟩
      have hB1 : Below wr.heap.size wr w2 := (((Below.refl wr.heap.size wr).alloc (Nat.le_refl _) _).alloc (by simp) _).trans (hB.mono (by simp; omega))
      have HB1 := Lib.hid hB1
      clear hB hB1
      go_wp2_with fail
      go_roundg (gk - 1)
      case measure => omega
      case rel => exact ⟨k + 1, by omega, by go_num, HB.out.trans (Keep.of_below (S := []) HB1.out) (by simp)⟩
    · obtain rfl : k = l.length := by omega
      clear hK
      go_wp2_with fail
      go_ret
      exact ⟨rfl, HB.out.below (Nat.le_refl _) (by simp)⟩
end Go.Proofs.Ytfmhlnfcbbpfeaa
/- A region that draws its order and only reads, in the round of a range over a function: one walk in the order of the text. No program is named here. -/
namespace Go.Proofs.Ytfmhlnfcbbpfeaa
open Go

def notDefer (o : Oper) : Bool := match o.op with
  | .defer _ => false
  | _ => true
theorem notDefer_ne {o : Oper} (h : notDefer o = true) : ∀ c, o.op ≠ .defer c := by
  intro c e
  simp [notDefer, e] at h

section
variable {F : Fence} {n : Nat} {P : Program} {ops : Array Oper} {C : World → Prop} {md : Region.Mode}
theorem quietR_op {o : Oper} {a : Act} {K : Act → Prop} {K' : Act → World → Prop} {Q' : Exit → Act → World → Prop} {w : World} (hd : notDefer o = true) (hw : C w) (h : ∀ a w', C w' → K a → K' a w')
    (ha : o.askedIn F P a C) (hh : o.quietIn F n P a C K) : o.wpIn F n P a w K' Q' := by
  obtain ⟨v, h1, h2⟩ := hh
  have h3 := h1 w hw
  unfold Oper.quietAtIn at h3
  refine ⟨ha w hw, ?_⟩
  rw [Oper.semAt_eq _ _ _ (notDefer_ne hd)]
  generalize (execOp a.eval o).run P w = r at *
  cases r with
  | halt x w' => simp only [Oper.quietUponIn] at h3
  | ok x w' =>
    cases x <;> simp only [Oper.quietUponIn] at h3 <;> simp only [Oper.uponIn]
    case value u => rw [h3.1, h3.2]; exact h _ _ hw h2
    case skip => rw [h3.1, ← h3.2]; exact h _ _ hw h2
    case enter f args =>
      obtain ⟨e1, hdp, hc⟩ := h3
      rw [e1]
      exact ⟨hdp, hc.mono fun e w'' ⟨he, hw''⟩ => by subst he; exact h _ _ hw'' h2⟩

theorem quietR_at (hd : ops.all notDefer = true) {i : Nat} {a : Act} {K : Act → Prop} {K' : Act → World → Prop} {Q' : Exit → Act → World → Prop} {w : World} (hC : C w) (h : ∀ a w', C w' → K a → K' a w')
    (hh : qOpIn F n P ops C i K a) : wpOpIn F n P ops Q' i K' a w := by
  unfold qOpIn at hh
  unfold wpOpIn
  cases ho : ops[i]? with
  | none => simp only [ho] at hh; exact h _ _ hC hh
  | some o =>
    simp only [ho] at hh ⊢
    obtain ⟨ha, hh⟩ := hh
    have hdo : notDefer o = true := by
      obtain ⟨hi, e⟩ := Array.getElem?_eq_some_iff.1 ho
      have := Array.all_eq_true.1 hd i hi
      rwa [e] at this
    split
    · rename_i hw; simp only [hw, if_true] at hh; exact quietR_op hdo hC h ha hh
    · rename_i hw; simp only [hw] at hh; exact ⟨ha w hC, h _ _ hC hh⟩

theorem quietR_any (hd : ops.all notDefer = true) {Q : Act → Prop} {Q' : Exit → Act → World → Prop} (hQ : ∀ a w, C w → Q a → Q' .normal a w) : ∀ (fuel : Nat) (listed : Array Bool) (a : Act) (w : World), C w →
    wpAnyQIn F n P md ops C Q fuel listed a → wpAnyIn F n P md ops Q' fuel listed a w
  | 0, _, _, _, hw, h => ⟨h.1, hQ _ _ hw h.2⟩
  | fuel + 1, _, _, _, hw, h => ⟨fun h0 => hQ _ _ hw (h.1 h0), fun i hi => quietR_at hd hw (fun a' w' hw' => quietR_any hd hQ fuel _ a' w' hw') (h.2 i hi)⟩
end

theorem region_quietR {F : Fence} {n : Nat} {P : Program} {id : Nat} {Q : Exit → Act → World → Prop} {a : Act} {w : World} {l : List Oper} (hd : l.toArray.all notDefer = true) (hm : P.follows .mixedOrders = true) (hB : Region.lexB .any l.toArray = true)
    (h : wpQuietIn F n P l.toArray (fun w' => ∃ n, w' = w.drewN n) (fun a' => ∀ w', (∃ n, w' = w.drewN n) → Q .normal a' w') l a) : (Code.region id l.toArray true).wpIn F n P Q a w := by
  simp only [Region.lexB, Bool.and_eq_true] at hB
  refine wpIn_region_any hm (quietR_any (C := fun w' => ∃ n, w' = w.drewN n) (Q := fun a' => ∀ w', (∃ n, w' = w.drewN n) → Q .normal a' w') hd (fun _ w' hw' h => h w' hw') _ _ _ _ ⟨1, rfl⟩ ?_)
  have := wpAnyQIn_lex (F := F) (n := n) (C := fun w' => ∃ n, w' = w.drewN n) (md := .any) hB.1 l 0 (Array.replicate l.toArray.size false) a (by simp) (by simpa using hB.2) h
  simpa using this
end Go.Proofs.Ytfmhlnfcbbpfeaa
