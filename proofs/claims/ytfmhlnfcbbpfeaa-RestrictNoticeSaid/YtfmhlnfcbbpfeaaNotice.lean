/- The walk of RestrictNotice. -/
import Derived.Test.YtfmhlnfcbbpfeaaLawKit
import Derived.Test.YtfmhlnfcbbpfeaaPast
import Derived.Test.YtfmhlnfcbbpfeaaAudit
import Derived.Test.YtfmhlnfcbbpfeaaNoticeP
namespace Go.Proofs.Ytfmhlnfcbbpfeaa
open Go Go.RowKit Sp
set_option linter.unusedVariables false

section
variable {w X : World} {pb : Nat} {As : Option Addr} {cs : Nat} {p : Pol} {Ad : Option Addr} {days : List Int} (c : Nat) (hst : startS p days = 0)
include hst
theorem orders_ok (h : PD w X pb As cs p Ad days) (hm : days.length ≤ 9223372036854775807) : Calls Try.prog 22 #[.agg #[.slice As p.steps.length cs, .int .i64 p.hold, .int .i64 p.calm, .int .i64 p.notice, .int .i64 p.grace], .slice Ad days.length c] X
    fun e w' => ∃ A1 c1, e = .returned (.tuple #[.slice A1 (ordersS p days).length c1, .int .i64 0]) ∧ Rd w' 3 A1 (ordersS p days).length (occs (ordersS p days)) ∧ Below X.heap.size X w' := by
  refine (Orders_any As cs p Ad c days X h.pol h.dys hm).mono ?_
  rintro e w' ⟨v, rfl, h1, h2⟩
  rw [if_pos hst] at h1
  rw [hst]
  obtain ⟨A1, c1, rfl⟩ : ∃ A1 c1, v = .slice A1 (ordersS p days).length c1 := by
    rcases h1.2 with ⟨rfl, hx⟩ | ⟨g, cap, cur, rfl, _⟩
    · refine ⟨none, 0, ?_⟩
      have h3 : (ordersS p days).length = 0 := by
        have := h1.1
        rw [hx] at this
        simp at this
        omega
      rw [h3]
    · exact ⟨_, _, rfl⟩
  exact ⟨A1, c1, rfl, Rd.of_own h1, h2⟩
theorem audit_ok (h : PD w X pb As cs p Ad days) (hm : days.length ≤ 9223372036854775807) {Ao : Option Addr} {co : Nat} (ho : Rd X 3 Ao (ordersS p days).length (occs (ordersS p days))) :
    Calls Try.prog 23 #[.agg #[.slice As p.steps.length cs, .int .i64 p.hold, .int .i64 p.calm, .int .i64 p.notice, .int .i64 p.grace], .slice Ad days.length c, .slice Ao (ordersS p days).length co] X
    fun e w' => e = .returned (.tuple #[.int .i64 (ordersS p days).length, .int .i64 0]) ∧ Below X.heap.size X w' := by
  have hl : (ordersS p days).length ≤ days.length := ordN_length _ _ _
  refine (Audit_ok As cs p Ad c days Ao co (ordersS p days) X h.pol h.dys hm ho (by omega) hst).mono ?_
  rintro e w' ⟨rfl, h2⟩
  refine ⟨?_, h2⟩
  rw [auditR, if_neg (by simpa using hst), if_pos rfl, cpl_all (List.take_length)]
end
theorem min_if (a b : Int) : min a b = if b < a then b else a := by split <;> omega

set_option maxRecDepth 100000 in
set_option maxHeartbeats 4000000 in
theorem notice_any (A1 : Option Addr) (c1 : Nat) (l1 : List Int) (A2 : Option Addr) (c2 : Nat) (l2 : List Int) (w : World) (hr1 : Rd w 1 A1 l1.length (byts l1)) (hl1 : Bytes l1) (hm1 : l1.length ≤ 9223372036854775800) (hr2 : Rd w 1 A2 l2.length (byts l2)) (hl2 : Bytes l2) (hm2 : l2.length ≤ 9223372036854775800) :
    Calls Try.prog 5 #[.slice A1 l1.length c1, .slice A2 l2.length c2] w fun e w' => e = .returned (.bool true) ∧ Below w.heap.size w w' := by
  have H0 := Lib.hid (And.intro hr1 (And.intro hl1 (And.intro hm1 (And.intro hr2 (And.intro hl2 hm2)))))
  clear hr1 hl1 hm1 hr2 hl2 hm2
  go_enter Try.func5, Try.ntmps5
  go_wp2_with fail
  refine (Made_any A1 c1 l1 w H0.out.1 H0.out.2.1 (by have := H0.out.2.2.1; omega)).mono ?_
  rintro e w1 ⟨As, cs, rfl, hp1, b1⟩
  obtain ⟨p, hp⟩ : ∃ p, p = madeP l1 := ⟨_, rfl⟩
  rw [← hp] at hp1 ⊢
  have HP := Lib.hid (And.intro hp (And.intro hp1 b1))
  clear hp hp1 b1
  go_wp2_with fail
  refine (past_own A2 c2 l2 w1 (H0.out.2.2.2.1.below HP.out.2.2) H0.out.2.2.2.2.1 H0.out.2.2.2.2.2).mono ?_
  rintro e w2 ⟨Ad, cd, days, qd, rfl, hod, hok, hl90, b2⟩
  have hck : checkS p = 0 := by rw [HP.out.1]; exact made_check' l1
  have hst : startS p days = 0 := start_zero hck hok (by omega)
  have pd0 : PD w _ _ As cs p Ad days := PD.new (HP.out.2.1.below b2) hod.rd (HP.out.2.2.trans (b2.mono HP.out.2.2.size))
  have hnb := (check_ok hck).2.2.2.2.2.2
  have hn0 := hnb.1
  have hn1 := hnb.2.1
  have HD := Lib.hid (And.intro hck hst)
  clear hod hok b2 hck hst hnb
  go_upto_region 2 with fail
  obtain ⟨W, hW⟩ : ∃ W, W = w2.alloc (.cells #[.slice As p.steps.length cs, .int .i64 p.hold, .int .i64 p.calm, .int .i64 p.notice, .int .i64 p.grace] 25) := ⟨_, rfl⟩
  obtain ⟨pb, hpb⟩ : ∃ pb, pb = w2.heap.size := ⟨_, rfl⟩
  rw [← hW, ← hpb] at pd0 ⊢
  have hcells := pd0.cells
  have HX1 := Lib.hid pd0
  clear hW hpb pd0
  obtain ⟨q0, q1, q2, q3, q4, zp⟩ := hcells
  go_wp2_with fail
  refine (dec_ok cd HD.out.2 HX1.out (by omega)).mono ?_
  rintro e X2 ⟨Aa, ca, rfl, ra, b2⟩
  have pdd := HX1.out.below b2
  have HX2 := Lib.hid (And.intro pdd ra)
  clear q0 q1 q2 q3 q4 zp b2 ra
  obtain ⟨q0, q1, q2, q3, q4, zp⟩ := pdd.cells
  clear pdd
  go_wp2_with fail
  refine (for_ok cd HD.out.2 HX2.out.1 (by omega)).mono ?_
  rintro e X3 ⟨Af, cf, rfl, rf, b3⟩
  have pdd := HX2.out.1.below b3
  have HX3 := Lib.hid (And.intro pdd (And.intro (HX2.out.2.below b3) rf))
  clear q0 q1 q2 q3 q4 zp b3 rf
  obtain ⟨q0, q1, q2, q3, q4, zp⟩ := pdd.cells
  clear pdd
  go_wp2_with fail
  refine (orders_ok cd HD.out.2 HX3.out.1 (by omega)).mono ?_
  rintro e X4 ⟨Ao, co, rfl, ro, b4⟩
  have pdd := HX3.out.1.below b4
  have HX4 := Lib.hid (And.intro pdd (And.intro (HX3.out.2.1.below b4) (And.intro (HX3.out.2.2.below b4) ro)))
  clear q0 q1 q2 q3 q4 zp b4 ro
  obtain ⟨q0, q1, q2, q3, q4, zp⟩ := pdd.cells
  clear pdd
  go_wp2_with fail
  refine (audit_ok cd HD.out.2 HX4.out.1 (by omega) HX4.out.2.2.2).mono ?_
  rintro e U ⟨rfl, b5⟩
  have FU : ∀ X, Below U.heap.size U X → PD w X pb As cs p Ad days ∧ Rd X 1 Aa days.length (ints (decidedS p days)) ∧ Rd X 1 Af days.length (ints (forceS p days)) ∧ Rd X 3 Ao (ordersS p days).length (occs (ordersS p days)) := by
    intro X hX
    have b : Below X4.heap.size X4 X := b5.trans (hX.mono b5.size)
    exact ⟨HX4.out.1.below b, HX4.out.2.1.below b, HX4.out.2.2.1.below b, HX4.out.2.2.2.below b⟩
  have HF := Lib.hid FU
  clear q0 q1 q2 q3 q4 zp b5 FU
  obtain ⟨no, hno⟩ : ∃ no, no = (ordersS p days).length := ⟨_, rfl⟩
  have hnl : no ≤ days.length := by rw [hno]; exact ordN_length _ _ _
  rw [← hno]
  have HNO := Lib.hid hno
  clear hno
  go_wp2_with fail
  go_loopw [15, 16, 87] (fun at_ bef i wr => ∃ k : Nat, k ≤ days.length ∧ i = .int .i64 k ∧ at_ = .int .i64 (ordN (forceS p days) p.notice k).length ∧ bef = .int .i64 (befN (forceS p days) k) ∧ Below U.heap.size U wr) (fun _ _ i _ => days.length - (intOf i).toNat)
  case atStart => exact ⟨0, Nat.zero_le _, rfl, rfl, rfl, Below.refl _ _⟩
  case round =>
    obtain ⟨k, hk, rfl, rfl, rfl, hb⟩ := hrel
    obtain ⟨at_, hat⟩ : ∃ y, y = (ordN (forceS p days) p.notice k).length := ⟨_, rfl⟩
    obtain ⟨bef, hbef⟩ : ∃ y, y = befN (forceS p days) k := ⟨_, rfl⟩
    rw [← hat, ← hbef]
    have HB := Lib.hid hb
    have HAB := Lib.hid (And.intro hat hbef)
    clear hb hat hbef
    by_cases hlt : k < days.length
    · obtain ⟨pdd, ra, rf, ro⟩ := HF.out wr HB.out
      obtain ⟨ba, oa, rfl, zba, ka⟩ := ra.2 (by omega)
      obtain ⟨bf, of_, rfl, zbf, kf⟩ := rf.2 (by omega)
      obtain ⟨q0, q1, q2, q3, q4, zp⟩ := pdd.cells
      obtain ⟨da, hda⟩ : ∃ y, y = (decidedS p days).getD k 0 := ⟨_, rfl⟩
      obtain ⟨df, hdf⟩ : ∃ y, y = (forceS p days).getD k 0 := ⟨_, rfl⟩
      have ca' : wr.cell? ⟨ba, oa + k, none⟩ = some (.int .i64 da) := by rw [hda]; exact ka k _ (ints_get (by rw [decidedS_length]; exact hlt))
      have cf' : wr.cell? ⟨bf, of_ + k, none⟩ = some (.int .i64 df) := by rw [hdf]; exact kf k _ (ints_get (by rw [forceS_length]; exact hlt))
      have HK := Lib.hid (And.intro hda (And.intro hdf (And.intro ka (And.intro pdd ro))))
      clear hda hdf ka kf pdd ra rf ro
      go_wp2_with fail
      obtain ⟨wo, rfl⟩ : ∃ wo : World, wo = wr := ⟨_, rfl⟩
      go_loop [19, 20] (fun m d => ∃ mi di : Int, (k : Int) - p.notice ≤ di ∧ di ≤ k ∧ m = .int .i64 mi ∧ d = .int .i64 di ∧ LeastI p days k di mi) (fun _ d => ((k : Int) - intOf d).toNat)
      case atStart => exact ⟨_, _, Int.le_refl _, by omega, rfl, rfl, by rw [HK.out.1]; exact LeastI.start HD.out.1 hlt⟩
      case round =>
        obtain ⟨mi, di, hd1, hd2, rfl, rfl, hL⟩ := hrel
        have HL := Lib.hid hL
        clear hL
        by_cases hdk : di < (k : Int)
        · by_cases hd0 : di < 0
          · go_wp2_with fail
            go_round
            case rel => exact ⟨_, _, by omega, by omega, rfl, rfl, LeastI.below HD.out.1 hlt hd1 hd0 HL.out⟩
            case measure => simp [intOf]; omega
          · obtain ⟨j, rfl⟩ := Int.eq_ofNat_of_zero_le (show 0 ≤ di by omega)
            obtain ⟨dj, hdj⟩ : ∃ y, y = (decidedS p days).getD j 0 := ⟨_, rfl⟩
            have cj : wo.cell? ⟨ba, oa + j, none⟩ = some (.int .i64 dj) := by rw [hdj]; exact HK.out.2.2.1 j _ (ints_get (by rw [decidedS_length]; omega))
            have HJ := Lib.hid hdj
            clear hdj
            go_wp2_with fail
            go_round
            case rel => exact ⟨_, _, by omega, by omega, rfl, rfl, by rw [HJ.out, ← min_if]; exact LeastI.next HD.out.1 hlt hd1 (by omega) HL.out⟩
            case measure => simp [intOf]; omega
        · have he := LeastI.end_ HD.out.1 hlt (by omega) HL.out
          rw [← HK.out.2.1] at he
          subst he
          have hle : mi ≤ da := by rw [HK.out.1, HK.out.2.1]; exact force_le hn0 hlt (Nat.le_refl _) (by omega)
          have HW := Lib.hid (And.intro hd1 hd2)
          clear hd1 hd2
          by_cases hmb : mi = bef
          · subst hmb
            go_wp2_with fail
            go_roundw
            case measure => simp [intOf]; omega
            case rel =>
              have e := ord_same (forceS p days) p.notice (k := k) (by rw [← HK.out.2.1, ← HAB.out.2])
              exact ⟨k + 1, by omega, by go_num, by rw [e.1, ← HAB.out.1], by rw [e.2, ← HAB.out.2], HB.out⟩
          · have hne := ord_at (forceS p days) p.notice hlt (by rw [← HK.out.2.1, ← HAB.out.2]; exact hmb)
            rw [← HK.out.2.1, ← HAB.out.2, ← HAB.out.1] at hne
            obtain ⟨xi, hxi⟩ : ∃ y, y = if bef < mi then (k : Int) - p.notice else k := ⟨_, rfl⟩
            rw [← hxi] at hne
            obtain ⟨hx, hlo, hsu⟩ := hne
            have hlo' : at_ < no := by rw [HNO.out]; exact hlo
            obtain ⟨bo, oo, rfl, zbo, ko⟩ := HK.out.2.2.2.2.2 (by rw [← HNO.out]; omega)
            obtain ⟨s0, s1, s2⟩ := occs_get hlo
            rw [List.getElem?_eq_getElem hlo, Option.some.injEq] at hx
            have hx0 : wo.cell? ⟨bo, oo + at_ * 3, none⟩ = some (.int .i64 xi) := by rw [ko _ _ s0, hx]
            have hx1 : wo.cell? ⟨bo, oo + at_ * 3 + 1, none⟩ = some (.int .i64 k) := by rw [Nat.add_assoc, ko _ _ s1, hx]
            have hx2 : wo.cell? ⟨bo, oo + at_ * 3 + 2, none⟩ = some (.int .i64 mi) := by rw [Nat.add_assoc, ko _ _ s2, hx]
            have HSU := Lib.hid hsu
            clear hx s0 s1 s2 ko hlo hsu
            by_cases hml : mi < bef
            · rw [if_neg (by omega)] at hxi
              subst hxi
              go_wp2_with fail
              go_roundw
              case measure => simp [intOf]; omega
              case rel => exact ⟨k + 1, by omega, by go_num, by rw [HSU.out]; go_num, by rw [HK.out.2.1]; rfl, HB.out.alloc HB.out.size _⟩
            · have hbm : bef < mi := by omega
              rw [if_pos hbm] at hxi
              have hup := notice_up HD.out.1 hlt (by rw [← HK.out.2.1, ← HAB.out.2]; exact hbm)
              have hno2 := hup.1
              have HUP := Lib.hid hup
              clear hup
              subst hxi
              by_cases hnk : p.notice < k
              · have hdn := HUP.out.2 hnk
                rw [← HK.out.2.1] at hdn
                obtain ⟨dj, hdj⟩ : ∃ y, y = (decidedS p days).getD (k - p.notice.toNat - 1) 0 := ⟨_, rfl⟩
                rw [← hdj] at hdn
                have cj : wo.cell? ⟨ba, oa + (((k : Int) - p.notice).toNat - 1), none⟩ = some (.int .i64 dj) := by
                  rw [hdj, show ((k : Int) - p.notice).toNat - 1 = k - p.notice.toNat - 1 from by omega]
                  exact HK.out.2.2.1 _ _ (ints_get (by rw [decidedS_length]; omega))
                have HJ := Lib.hid hdj
                clear hdj
                go_wp2_with fail
                go_roundw
                case measure => simp [intOf]; omega
                case rel => exact ⟨k + 1, by omega, by go_num, by rw [HSU.out]; go_num, by rw [HK.out.2.1]; rfl, HB.out.alloc HB.out.size _⟩
              · go_wp2_with fail
                go_roundw
                case measure => simp [intOf]; omega
                case rel => exact ⟨k + 1, by omega, by go_num, by rw [HSU.out]; go_num, by rw [HK.out.2.1]; rfl, HB.out.alloc HB.out.size _⟩
    · obtain rfl : k = days.length := by omega
      have hno : at_ = no := by rw [HNO.out, HAB.out.1]; rfl
      subst hno
      have hb := (HF.out wr HB.out).1.bel
      have HBW := Lib.hid hb
      clear hb
      go_wp2_with fail
      refine (awake_any _).mono ?_
      rintro e X6 ⟨rfl, b6⟩
      have B6 := Lib.hid b6
      clear b6
      go_wp2_with fail
      go_ret
      exact ⟨rfl, HBW.out.trans (B6.out.mono HBW.out.size)⟩
end Go.Proofs.Ytfmhlnfcbbpfeaa
