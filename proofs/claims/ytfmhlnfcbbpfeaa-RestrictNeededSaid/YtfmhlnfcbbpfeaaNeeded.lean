/- The walk of RestrictNeeded. -/
import Derived.Test.YtfmhlnfcbbpfeaaLawKit
import Derived.Test.YtfmhlnfcbbpfeaaPast
import Derived.Test.YtfmhlnfcbbpfeaaNeededP
import Derived.Test.YtfmhlnfcbbpfeaaReviewed
import Derived.Test.YtfmhlnfcbbpfeaaNeeded1
import Derived.Test.YtfmhlnfcbbpfeaaNeeded3
import Derived.Test.YtfmhlnfcbbpfeaaNeeded5
namespace Go.Proofs.Ytfmhlnfcbbpfeaa
open Go Go.RowKit Sp
set_option linter.unusedVariables false

theorem need_call {w X : World} {pb : Nat} {As : Option Addr} {cs : Nat} {p : Pol} {Ad : Option Addr} {days : List Int} (c : Nat) (h : PD w X pb As cs p Ad days) (hm : days.length ≤ 9223372036854775807) (a z : Int) {x y e : Int} {b : Bool} (hv : needV p days a z = ⟨x, y, b⟩) (he : needE p days a z = e) :
    Calls Try.prog 25 #[.agg #[.slice As p.steps.length cs, .int .i64 p.hold, .int .i64 p.calm, .int .i64 p.notice, .int .i64 p.grace], .slice Ad days.length c, .int .i64 a, .int .i64 z] X
    fun e' w' => e' = .returned (.tuple #[.agg #[.int .i64 x, .int .i64 y, .bool b], .int .i64 e]) ∧ Below X.heap.size X w' := by
  refine (Need_any As cs p Ad c days a z X h.pol h.dys hm).mono ?_
  rintro e' w' ⟨rfl, hB⟩
  rw [hv, he]
  exact ⟨rfl, hB⟩
theorem windows_call {w X : World} {pb : Nat} {As : Option Addr} {cs : Nat} {p : Pol} {Ad : Option Addr} {days : List Int} (c : Nat) (hst : startS p days = 0) (h : PD w X pb As cs p Ad days) (hm : days.length ≤ 9223372036854775807) {v : Ves} (hv : vright v = true) :
    Calls Try.prog 26 #[.agg #[.slice As p.steps.length cs, .int .i64 p.hold, .int .i64 p.calm, .int .i64 p.notice, .int .i64 p.grace], .slice Ad days.length c, .agg #[.int .i64 v.cls, .int .i64 v.ton, .bool v.esc]] X
    fun e w' => ∃ A1 c1, e = .returned (.tuple #[.slice A1 (winN (passesS p days v) days.length).length c1, .int .i64 0]) ∧ Rd w' 2 A1 (winN (passesS p days v) days.length).length (spcs (winN (passesS p days v) days.length)) ∧ Below X.heap.size X w' := by
  refine (Windows_any As cs p Ad c days v X h.pol h.dys hm).mono ?_
  have e0 : askS p days v = 0 := by rw [ask_right hst, hv]; rfl
  rintro e w' ⟨A, c, rfl, h1, h2⟩
  unfold windowsS at *
  rw [if_pos e0] at *
  rw [e0]
  exact ⟨A, c, rfl, h1.1, h2⟩
theorem first_call {w X : World} {pb : Nat} {As : Option Addr} {cs : Nat} {p : Pol} {Ad : Option Addr} {days : List Int} (c : Nat) (h : PD w X pb As cs p Ad days) (hm : days.length ≤ 9223372036854775807) (v : Ves) (a : Int) {n e : Int} (hn : firN p days v a = n) (he : firE p days v a = e) :
    Calls Try.prog 27 #[.agg #[.slice As p.steps.length cs, .int .i64 p.hold, .int .i64 p.calm, .int .i64 p.notice, .int .i64 p.grace], .slice Ad days.length c, .agg #[.int .i64 v.cls, .int .i64 v.ton, .bool v.esc], .int .i64 a] X
    fun e' w' => e' = .returned (.tuple #[.int .i64 n, .int .i64 e]) ∧ Below X.heap.size X w' := by
  refine (First_any As cs p Ad c days v a X h.pol h.dys hm).mono ?_
  rintro e' w' ⟨rfl, hB⟩
  rw [hn, he]
  exact ⟨rfl, hB⟩

set_option maxRecDepth 100000 in
set_option maxHeartbeats 8000000 in
theorem needed_any (A1 : Option Addr) (c1 : Nat) (l1 : List Int) (A2 : Option Addr) (c2 : Nat) (l2 : List Int) (en le cl tn : Int) (w : World) (hr1 : Rd w 1 A1 l1.length (byts l1)) (hl1 : Bytes l1) (hm1 : l1.length ≤ 9223372036854775800) (hr2 : Rd w 1 A2 l2.length (byts l2)) (hl2 : Bytes l2) (hm2 : l2.length ≤ 9223372036854775800)
    (h1 : 0 ≤ en ∧ en ≤ 255) (h2 : 0 ≤ le ∧ le ≤ 255) (h5 : 0 ≤ cl ∧ cl ≤ 255) (h6 : 0 ≤ tn ∧ tn ≤ 255) :
    Calls Try.prog 7 #[.slice A1 l1.length c1, .slice A2 l2.length c2, .int .u8 en, .int .u8 le, .int .u8 cl, .int .u8 tn] w fun e w' => e = .returned (.bool true) ∧ Below w.heap.size w w' := by
  have H0 := Lib.hid (And.intro hr1 (And.intro hl1 (And.intro hm1 (And.intro hr2 (And.intro hl2 hm2)))))
  clear hr1 hl1 hm1 hr2 hl2 hm2
  go_enter Try.func7, Try.ntmps7
  go_wp2_with fail
  refine (Made_any A1 c1 l1 w H0.out.1 H0.out.2.1 (by have := H0.out.2.2.1; omega)).mono ?_
  rintro e w1 ⟨As, cs, rfl, hp1, b1⟩
  obtain ⟨p, hp⟩ : ∃ p, p = madeP l1 := ⟨_, rfl⟩
  rw [← hp] at hp1 ⊢
  have HP := Lib.hid (And.intro hp (And.intro hp1 b1))
  clear hp hp1 b1
  go_wp2_with fail
  refine (past_any A2 c2 l2 w1 (H0.out.2.2.2.1.below HP.out.2.2) H0.out.2.2.2.2.1 H0.out.2.2.2.2.2).mono ?_
  rintro e w2 ⟨Ad, cd, days, rfl, hrd, hok, hl90, hcd, hmd, b2⟩
  have hck : checkS p = 0 := by rw [HP.out.1]; exact made_check' l1
  have hst : startS p days = 0 := start_zero hck hok (by omega)
  have pd0 : PD w _ _ As cs p Ad days := PD.new (HP.out.2.1.below b2) hrd (HP.out.2.2.trans (b2.mono HP.out.2.2.size))
  have HD := Lib.hid (And.intro hck hst)
  clear hrd hok b2 hck hst
  go_upto_region 2 with fail
  obtain ⟨W, hW⟩ : ∃ W, W = w2.alloc (.cells #[.slice As p.steps.length cs, .int .i64 p.hold, .int .i64 p.calm, .int .i64 p.notice, .int .i64 p.grace] 25) := ⟨_, rfl⟩
  obtain ⟨pb, hpb⟩ : ∃ pb, pb = w2.heap.size := ⟨_, rfl⟩
  rw [← hW, ← hpb] at pd0 ⊢
  have HW := Lib.hid pd0
  clear hW hpb pd0
  obtain ⟨q0, q1, q2, q3, q4, zp⟩ := HW.out.cells
  by_cases hn : days.length = 0
  · have hnb : ((days.length : Int) == 0) = true := by simp [hn]
    have hE : needE p days 0 0 = 6 ∧ needV p days 0 0 = ⟨0, 0, false⟩ := need_out HD.out.2 (by rw [hn]; rfl)
    have hcall := need_call cd HW.out (by omega) 0 0 hE.2 hE.1
    have HE := Lib.hid hcall
    clear hn hE hcall
    go_wp2_with fail
    refine HE.out.mono ?_
    rintro e w3 ⟨rfl, b3⟩
    have B3 := Lib.hid b3
    clear b3
    go_wp2_with fail
    refine (awake_any _).mono ?_
    rintro e w4 ⟨rfl, b4⟩
    have B4 := Lib.hid b4
    clear b4
    go_wp2_with fail
    go_ret
    have bb : Below w.heap.size w w3 := (HW.out.below B3.out).bel
    exact ⟨rfl, (bb.alloc bb.size _).trans (B4.out.mono (by have := bb.size; simp; omega))⟩
  · have hnb : ((days.length : Int) == 0) = false := by simp [hn]
    obtain ⟨a0, ha0⟩ : ∃ a0 : Nat, en % (days.length : Int) = a0 := ⟨(en % (days.length : Int)).toNat, by have := Int.emod_nonneg en (b := (days.length : Int)) (by omega); omega⟩
    obtain ⟨b0, hb0⟩ : ∃ b0 : Nat, le % (days.length : Int) = b0 := ⟨(le % (days.length : Int)).toNat, by have := Int.emod_nonneg le (b := (days.length : Int)) (by omega); omega⟩
    have ha0' : a0 < days.length := by have := Int.emod_lt_of_pos en (b := (days.length : Int)) (by omega); omega
    have hb0' : b0 < days.length := by have := Int.emod_lt_of_pos le (b := (days.length : Int)) (by omega); omega
    have t1 : en.tmod (days.length : Int) = a0 := by rw [Int.tmod_eq_emod_of_nonneg (by omega)]; exact ha0
    have t2 : le.tmod (days.length : Int) = b0 := by rw [Int.tmod_eq_emod_of_nonneg (by omega)]; exact hb0
    have t3 : IntKind.i64.wrap en = en := IntWalk.i64_in _ (by omega)
    have t4 : IntKind.i64.wrap le = le := IntWalk.i64_in _ (by omega)
    have t5 : IntKind.i64.wrap (a0 : Int) = a0 := IntWalk.i64_in _ (by omega)
    have t6 : IntKind.i64.wrap (b0 : Int) = b0 := IntWalk.i64_in _ (by omega)
    have t7 : ¬ (days.length = 0) := hn
    go_upto_region 5 with fail
    go_quiet (fail)
    obtain ⟨V, hV⟩ : ∃ V, V = W.drewN nq := ⟨_, rfl⟩
    rw [← hV]
    have bV : Below W.heap.size W V := by rw [hV]; exact below_drewN (Below.refl _ _) _
    obtain ⟨a, ha⟩ : ∃ a, a = min a0 b0 := ⟨_, rfl⟩
    obtain ⟨z, hz⟩ : ∃ z, z = max a0 b0 := ⟨_, rfl⟩
    have haz : a ≤ z := by omega
    have hzn : z < days.length := by omega
    have HA := Lib.hid (And.intro ha hz)
    have HV := Lib.hid (HW.out.below bV)
    clear zp hV ha hz t1 t2 t3 t4 t5 t6 t7 ha0 hb0 bV q0 q1 q2 q3 q4
    go_upto_if 72 with fail
    go_cut [17, 18] (fun x y wx => x = .int .i64 a ∧ y = .int .i64 z ∧ wx = V)
    case first =>
      by_cases hab : b0 < a0
      · go_wp2_with fail
        go_meet
        exact ⟨by rw [show a = b0 from by have := HA.out; omega], by rw [show z = a0 from by have := HA.out; omega], rfl⟩
      · go_wp2_with fail
        go_meet
        exact ⟨by rw [show a = a0 from by have := HA.out; omega], by rw [show z = b0 from by have := HA.out; omega], rfl⟩
    case rest =>
      obtain ⟨rfl, rfl, rfl⟩ := hcut
      clear ha0' hb0' HA hnb hn h1 h2
      obtain ⟨q0, q1, q2, q3, q4, zp⟩ := HV.out.cells
      obtain ⟨nv, hnv⟩ : ∃ v, v = needV p days a z := ⟨_, rfl⟩
      obtain ⟨nc, nt, ne⟩ := nv
      have hrt := need_right (p := p) HD.out.2 haz hzn
      rw [← hnv] at hrt
      simp only at hrt
      obtain ⟨r1, r2, r3, r4, rfl⟩ := hrt
      have hE := (need_stp (p := p) HD.out.2 haz hzn).choose_spec.2.2.1
      have hcall := need_call cd HV.out (by omega) a z hnv.symm hE
      have HN := Lib.hid (And.intro hnv hcall)
      clear hnv hcall hE
      go_wp2_with fail
      refine HN.out.2.mono ?_
      rintro e X0 ⟨rfl, b3⟩
      obtain ⟨nb, hnb⟩ : ∃ nb, nb = X0.heap.size := ⟨_, rfl⟩
      obtain ⟨X1, hX1⟩ : ∃ X1, X1 = X0.alloc (.cells #[.int .i64 nc, .int .i64 nt, .bool false] 33) := ⟨_, rfl⟩
      have hb1 : Below X0.heap.size X0 X1 := by rw [hX1]; exact (Below.refl _ _).alloc (Nat.le_refl _) _
      have hvh : X1.heap[nb]? = some (.cells #[.int .i64 nc, .int .i64 nt, .bool false] 33 (0, 0)) := by rw [hX1, hnb]; exact heap_alloc_new _ _
      have hpd1 := (HV.out.below b3).below hb1
      clear q0 q1 q2 q3 q4 zp b3 hb1
      have s0 := (cell_of_heap hvh 0).trans rfl
      have s1 := (cell_of_heap hvh 1).trans rfl
      have s2 := (cell_of_heap hvh 2).trans rfl
      have zn := heap_lt hvh
      have HX1 := Lib.hid (And.intro hpd1 hvh)
      clear hpd1 hvh
      go_upto_region 9 with fail
      rw [← hX1, ← hnb]
      clear hX1 hnb
      go_wp2_with fail
      clear s0 s1 s2 zn
      obtain ⟨U, hU⟩ : ∃ U, U = X1.alloc (.cells #[.int .i64 nc, .int .i64 nt, .bool false, .int .i64 (nc - 1), .int .i64 nt, .bool false, .int .i64 nc, .int .i64 (nt - 1), .bool false] 33) := ⟨_, rfl⟩
      obtain ⟨ub, hub⟩ : ∃ ub, ub = X1.heap.size := ⟨_, rfl⟩
      rw [← hU, ← hub]
      have hbU : Below X1.heap.size X1 U := by rw [hU]; exact (Below.refl _ _).alloc (Nat.le_refl _) _
      have huh : U.heap[ub]? = some (.cells #[.int .i64 nc, .int .i64 nt, .bool false, .int .i64 (nc - 1), .int .i64 nt, .bool false, .int .i64 nc, .int .i64 (nt - 1), .bool false] 33 (0, 0)) := by rw [hU, hub]; exact heap_alloc_new _ _
      have HU := Lib.hid (And.intro (HX1.out.1.below hbU) huh)
      clear hU hub hbU huh
      go_loopw [105] (fun i wr => ∃ k : Nat, k ≤ 3 ∧ i = .int .i64 k ∧ Below U.heap.size U wr) (fun i _ => 3 - (intOf i).toNat)
      case atStart => exact ⟨0, by omega, rfl, Below.refl _ _⟩
      case round =>
        obtain ⟨k, hk, rfl, hb⟩ := hrel
        have HB := Lib.hid hb
        clear hb
        by_cases hlt : k < 3
        · refine needed1 hl90 HD.out.2 haz hzn HN.out.1 r1 r2 r3 r4 hlt HU.out.1 HU.out.2 HB.out ?_
          intro _ _ _ _ _ _ _ _ _ _ _ _ _ _ _ _ _ _ _ _ _ _ _ _ _ _ _ _ _ _ _ _ _ _ _ _ _ _ _ _ _ _ _ _ w' hr
          refine ⟨?_, by simp [intOf]; omega⟩
          repeat apply Exists.intro
          refine ⟨?_, rfl⟩
          exact ⟨k + 1, by omega, by go_num, hr⟩
        · obtain ⟨x, hx⟩ : ∃ x, x = cl % 7 := ⟨_, rfl⟩
          obtain ⟨t, ht⟩ : ∃ t, t = 100 * tn := ⟨_, rfl⟩
          obtain ⟨eb, heb⟩ : ∃ eb, eb = decide (127 < cl) := ⟨_, rfl⟩
          have hvr : vright ⟨x, t, eb⟩ = true := by simp [vright, within]; omega
          obtain ⟨L, hL⟩ : ∃ L, L = winN (passesS p days ⟨x, t, eb⟩) days.length := ⟨_, rfl⟩
          have hwo : WinOk (passesS p days ⟨x, t, eb⟩) days.length L := by rw [hL]; exact winN_ok _ _
          have hLl : L.length ≤ 90 := by rw [hL]; have := winN_length (passesS p days ⟨x, t, eb⟩) days.length; omega
          obtain ⟨fe, hfe⟩ : ∃ y, y = firE p days ⟨x, t, eb⟩ a := ⟨_, rfl⟩
          obtain ⟨fn, hfn⟩ : ∃ y, y = firN p days ⟨x, t, eb⟩ a := ⟨_, rfl⟩
          have hff : (fe = 4 ∧ fstN (passesS p days ⟨x, t, eb⟩) a days.length = -1) ∨ (fe = 0 ∧ fn = fstN (passesS p days ⟨x, t, eb⟩) a days.length ∧ 0 ≤ fn) := by
            have hm : mayE p days ⟨x, t, eb⟩ (a : Int) = 0 := (may_ok (v := ⟨x, t, eb⟩) HD.out.2 hvr (by omega : a < days.length)).1
            rcases fst_first (l := passesS p days ⟨x, t, eb⟩) (a := a) (n := days.length) (passesS_length _ _ _) with ⟨h1, h2⟩ | ⟨h1, h2⟩
            · exact .inl ⟨by rw [hfe]; exact (fir_none hm (by rw [firI, Int.toNat_natCast]; exact h1)).1, h2⟩
            · have := fir_some (p := p) (days := days) (v := ⟨x, t, eb⟩) (day := (a : Int)) hm (by rw [firI, Int.toNat_natCast]; exact h1)
              rw [firI, Int.toNat_natCast] at this
              exact .inr ⟨by rw [hfe]; exact this.1, by rw [hfn, this.2, h2], by rw [hfn, this.2]; omega⟩
          have HV := Lib.hid (And.intro hvr (And.intro hL (And.intro hwo (And.intro hff (And.intro hfe hfn)))))
          have hfe2 : fe = 0 ∨ fe = 4 := hff.elim (fun h => .inr h.1) (fun h => .inl h.1)
          have HFE := Lib.hid hfe2
          have pdw := HU.out.1.below HB.out
          have HPW := Lib.hid pdw
          obtain ⟨q0, q1, q2, q3, q4, zp⟩ := pdw.cells
          clear hvr hwo hff hfe2 pdw
          go_upto_region 28 with fail
          rw [← hx, ← ht, ← heb]
          obtain ⟨Y0, hY⟩ : ∃ Y0, Y0 = wr.alloc (.cells #[.int .i64 x, .int .i64 t, .bool eb] 33) := ⟨_, rfl⟩
          obtain ⟨vb, hvb⟩ : ∃ vb, vb = wr.heap.size := ⟨_, rfl⟩
          rw [← hY, ← hvb]
          have hbY : Below wr.heap.size wr Y0 := by rw [hY]; exact (Below.refl _ _).alloc (Nat.le_refl _) _
          have hvh : Y0.heap[vb]? = some (.cells #[.int .i64 x, .int .i64 t, .bool eb] 33 (0, 0)) := by rw [hY, hvb]; exact heap_alloc_new _ _
          have FY : ∀ X, Below Y0.heap.size Y0 X → PD w X pb As cs p Ad days ∧ X.cell? ⟨vb, 0, none⟩ = some (.int .i64 x) ∧ X.cell? ⟨vb, 1, none⟩ = some (.int .i64 t) ∧ X.cell? ⟨vb, 2, none⟩ = some (.bool eb) ∧ vb < X.heap.size := by
            intro X hX
            have h5 := (hX.block _ (heap_lt hvh)).trans hvh
            exact ⟨(HPW.out.below hbY).below hX, (cell_of_heap h5 0).trans rfl, (cell_of_heap h5 1).trans rfl, (cell_of_heap h5 2).trans rfl, heap_lt h5⟩
          have HF := Lib.hid FY
          clear FY hvh hbY hY hvb q0 q1 q2 q3 q4 zp heb hx ht
          obtain ⟨pdd, v0, v1, v2, zv⟩ := HF.out Y0 (Below.refl _ _)
          obtain ⟨q0, q1, q2, q3, q4, zp⟩ := pdd.cells
          have kw := windows_call cd HD.out.2 pdd (by omega) HV.out.1
          rw [← HV.out.2.1] at kw
          obtain ⟨nl, hnl⟩ : ∃ nl, nl = L.length := ⟨_, rfl⟩
          rw [← hnl] at kw hLl
          have KW := Lib.hid kw
          have HNL := Lib.hid hnl
          clear kw pdd hL hnl
          go_wp2_with fail
          refine KW.out.mono ?_
          rintro e Y1 ⟨Aw, cw, rfl, rw_, b1⟩
          have HB1 := Lib.hid (And.intro b1 rw_)
          clear b1 rw_ q0 q1 q2 q3 q4 zp v0 v1 v2 zv
          obtain ⟨pdd, v0, v1, v2, zv⟩ := HF.out Y1 HB1.out.1
          obtain ⟨q0, q1, q2, q3, q4, zp⟩ := pdd.cells
          have kf := first_call cd pdd (by omega) ⟨x, t, eb⟩ a hfn.symm hfe.symm
          have KFI := Lib.hid kf
          clear kf pdd hfn hfe
          go_wp2_with fail
          refine KFI.out.mono ?_
          rintro e Y2 ⟨rfl, b2⟩
          have HB2 := Lib.hid (And.intro (HB1.out.1.trans (b2.mono HB1.out.1.size)) (HB1.out.2.below b2))
          clear b2 q0 q1 q2 q3 q4 zp v0 v1 v2 zv
          go_upto_region 30 with fail
          go_cut [176] from 167 to 176 (fun b wx => b = .bool false ∧ wx = Y2)
          case first =>
            rcases HFE.out with h | h
            · subst h
              go_wp2_with fail
              go_meet
              exact ⟨rfl, rfl⟩
            · subst h
              go_wp2_with fail
              go_meet
              exact ⟨rfl, rfl⟩
          case rest =>
          obtain ⟨rfl, rfl⟩ := hcut
          go_wp2_with fail
          go_loopw [32, 33, 179] (fun f at_ i wr => ∃ (k : Nat) (aw : Nat), k ≤ days.length ∧ i = .int .i64 k ∧ at_ = .int .i64 aw ∧ aw ≤ nl ∧ (∀ i (hi : i < L.length), i < aw → L[i].2 < (k : Int)) ∧ f = .int .i64 (fstN (passesS p days ⟨x, t, eb⟩) a k) ∧ Below wc.heap.size wc wr) (fun _ _ i _ => days.length - (intOf i).toNat)
          case atStart => exact ⟨0, 0, Nat.zero_le _, rfl, rfl, Nat.zero_le _, fun i hi h => absurd h (by omega), rfl, Below.refl _ _⟩
          case round =>
            obtain ⟨k, aw, hk, rfl, rfl, haw, hbef, rfl, hb⟩ := hrel
            by_cases hlt : k < days.length
            · refine needed3 hl90 HD.out.2 HV.out.1 HV.out.2.2.1 HNL.out hLl hlt haw (by omega) (fun X hX => HF.out X (HB2.out.1.trans (hX.mono HB2.out.1.size))) HB2.out.2 hbef hb ?_
              intro _ _ _ _ _ _ _ _ _ _ _ _ _ _ _ _ _ _ _ _ _ _ _ _ _ _ _ _ _ _ _ _ _ _ _ _ _ _ _ _ _ _ _ _ _ _ _ _ _ _ _ _ _ _ _ _ _ _ _ _ _ _ f' aw' w' hr
              obtain ⟨rfl, h1, h2, h3⟩ := hr
              refine ⟨?_, by simp [intOf]; omega⟩
              repeat apply Exists.intro
              refine ⟨?_, rfl⟩
              exact ⟨k + 1, aw', by omega, by go_num, rfl, h1, h2, rfl, h3⟩
            · obtain rfl : k = days.length := by omega
              obtain ⟨ff, hff0⟩ : ∃ y, y = fstN (passesS p days ⟨x, t, eb⟩) a days.length := ⟨_, rfl⟩
              rw [← hff0]
              have hff := HV.out.2.2.2.1
              rw [← hff0] at hff
              have HFF := Lib.hid hff
              have HBE := Lib.hid (And.intro hbef (And.intro hb hff0))
              clear hff hff0 hbef hb
              go_upto_region 45 with fail
              go_cut [250] from 237 to 250 (fun b wx => b = .bool false ∧ wx = wr)
              case first =>
                rcases HFF.out with ⟨rfl, rfl⟩ | ⟨rfl, rfl, h0⟩
                · go_wp2_with fail
                  go_meet
                  exact ⟨rfl, rfl⟩
                · go_wp2_with fail
                  go_meet
                  exact ⟨rfl, rfl⟩
              case rest =>
              obtain ⟨rfl, rfl⟩ := hcut
              have HBC := Lib.hid (HB2.out.1.trans (HBE.out.2.1.mono HB2.out.1.size))
              have HRC := Lib.hid (HB2.out.2.below HBE.out.2.1)
              obtain ⟨Wc, rfl⟩ : ∃ y, y = wc := ⟨_, rfl⟩
              go_wp2_with fail
              go_loopw [253] (fun i wr => ∃ k : Nat, k ≤ nl ∧ i = .int .i64 k ∧ Below Wc.heap.size Wc wr) (fun i _ => nl - (intOf i).toNat)
              case atStart => exact ⟨0, Nat.zero_le _, rfl, Below.refl _ _⟩
              case round =>
                obtain ⟨k, hk5, rfl, hb⟩ := hrel
                have HB5 := Lib.hid hb
                clear hb
                by_cases hlt : k < nl
                · refine needed5 hl90 HD.out.1 HD.out.2 HV.out.1 HV.out.2.2.1 HNL.out hLl hlt (fun X hX => HF.out X (HBC.out.trans (hX.mono HBC.out.size))) HRC.out HB5.out ?_
                  intro _ _ _ _ _ _ _ _ _ _ _ _ _ _ _ _ _ _ _ _ _ _ _ _ _ _ _ _ _ _ _ _ _ _ _ _ _ _ _ _ _ _ _ _ _ _ _ _ _ _ _ _ _ _ _ _ _ _ _ _ _ _ _ _ w' hr
                  refine ⟨?_, by simp [intOf]; omega⟩
                  repeat apply Exists.intro
                  refine ⟨?_, rfl⟩
                  exact ⟨k + 1, by omega, by go_num, hr⟩
                · have hb := (HF.out wr (HBC.out.trans (HB5.out.mono HBC.out.size))).1.bel
                  have HBW := Lib.hid hb
                  clear hb
                  go_wp2_with fail
                  refine (awake_any _).mono ?_
                  rintro e X6 ⟨rfl, b6⟩
                  have B6 := Lib.hid b6
                  clear b6
                  go_wp2_with fail
                  go_ret
                  exact ⟨rfl, HBW.out.trans (B6.out.mono HBW.out.size)⟩
end Go.Proofs.Ytfmhlnfcbbpfeaa
