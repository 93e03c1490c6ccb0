/- The walk of RestrictShown. -/
import Derived.Test.YtfmhlnfcbbpfeaaLawKit
namespace Go.Proofs.Ytfmhlnfcbbpfeaa
open Go Go.RowKit Sp
set_option linter.unusedVariables false

theorem wit_zero {p : Pol} {days : List Int} {d : Nat} (hst : startS p days = 0) (hd : d < days.length) (h : (decidedS p days).getD d 0 = 0) : witR p days d = (4, 0, 0) := by
  rw [wit_go hst (by simp [within]; omega), Int.toNat_natCast, if_pos h]
theorem wit_pos {p : Pol} {days : List Int} {d j : Nat} {x : Int × Int} (hst : startS p days = 0) (hd : d < days.length) (h : (decidedS p days).getD d 0 = (j : Int)) (hj : 0 < j) (hx : wit p days (keptS p days) d j (d + 1) = some x) : witR p days d = (0, x.1, x.2) := by
  rw [wit_go hst (by simp [within]; omega), Int.toNat_natCast, if_neg (by rw [h]; omega), h, hx]
theorem wit_none {p : Pol} {days : List Int} (hst : startS p days = 0) (hd : days.length = 0) : witR p days 0 = (6, 0, 0) := wit_day hst (by rw [hd]; rfl)
theorem wit_hi {p : Pol} {days kp : List Int} {d s : Int} : ∀ {n : Nat} {x : Int × Int}, wit p days kp d s n = some x → 0 ≤ x.2
  | 0, x, h => by cases h
  | n + 1, x, h => by
    unfold wit at h
    split at h
    · injection h with h
      subst h
      exact Int.natCast_nonneg n
    · exact wit_hi h

set_option maxRecDepth 100000 in
set_option maxHeartbeats 4000000 in
theorem shown_any (A1 : Option Addr) (c1 : Nat) (l1 : List Int) (A2 : Option Addr) (c2 : Nat) (l2 : List Int) (dy st fr : Int) (w : World) (hr1 : Rd w 1 A1 l1.length (byts l1)) (hl1 : Bytes l1) (hm1 : l1.length ≤ 9223372036854775800) (hr2 : Rd w 1 A2 l2.length (byts l2)) (hl2 : Bytes l2) (hm2 : l2.length ≤ 9223372036854775800)
    (h1 : 0 ≤ dy ∧ dy ≤ 255) (h2 : 0 ≤ st ∧ st ≤ 255) (h3 : 0 ≤ fr ∧ fr ≤ 255) :
    Calls Try.prog 4 #[.slice A1 l1.length c1, .slice A2 l2.length c2, .int .u8 dy, .int .u8 st, .int .u8 fr] w fun e w' => e = .returned (.bool true) ∧ Below w.heap.size w w' := by
  have H0 := Lib.hid (And.intro hr1 (And.intro hl1 (And.intro hm1 (And.intro hr2 (And.intro hl2 hm2)))))
  clear hr1 hl1 hm1 hr2 hl2 hm2
  go_enter Try.func4, Try.ntmps4
  go_wp2_with fail
  refine (Made_any A1 c1 l1 w H0.out.1 H0.out.2.1 (by have := H0.out.2.2.1; omega)).mono ?_
  rintro e w1 ⟨As, cs, rfl, hp1, b1⟩
  obtain ⟨p, hp⟩ : ∃ p, p = madeP l1 := ⟨_, rfl⟩
  rw [← hp] at hp1 ⊢
  have HP := Lib.hid (And.intro hp (And.intro hp1 b1))
  clear hp hp1 b1
  go_wp2_with fail
  refine (past_any A2 c2 l2 w1 (H0.out.2.2.2.1.below HP.out.2.2) H0.out.2.2.2.2.1 H0.out.2.2.2.2.2).mono ?_
  rintro e w2 ⟨Ad, cd, days, rfl, hrd, hok, hl90, hcd, hmd, b2⟩
  have hck : checkS p = 0 := by rw [HP.out.1]; exact made_check' l1
  have hst : startS p days = 0 := start_zero hck hok (by omega)
  have pd0 : PD w _ _ As cs p Ad days := PD.new (HP.out.2.1.below b2) hrd (HP.out.2.2.trans (b2.mono HP.out.2.2.size))
  have hps : 1 ≤ p.steps.length ∧ p.steps.length ≤ 8 := by have := check_ok hck; exact ⟨List.length_pos_iff.2 this.1, this.2.1⟩
  have hph : 1 ≤ p.hold ∧ p.hold ≤ 30 := by have := check_ok hck; omega
  have HD := Lib.hid (And.intro hck (And.intro hst hok))
  clear hrd hok b2 hck hst
  go_upto_region 2 with fail
  obtain ⟨W, hW⟩ : ∃ W, W = w2.alloc (.cells #[.slice As p.steps.length cs, .int .i64 p.hold, .int .i64 p.calm, .int .i64 p.notice, .int .i64 p.grace] 25) := ⟨_, rfl⟩
  obtain ⟨pb, hpb⟩ : ∃ pb, pb = w2.heap.size := ⟨_, rfl⟩
  rw [← hW, ← hpb] at pd0 ⊢
  have HPD := Lib.hid pd0
  obtain ⟨q0, q1, q2, q3, q4, zp⟩ := pd0.cells
  clear hW hpb pd0
  by_cases hn : days.length = 0
  · have hnb : ((days.length : Int) == 0) = true := by simp [hn]
    have hwt := wit_none HD.out.2.1 hn
    have HN := Lib.hid (And.intro hn hwt)
    clear hn hwt
    go_wp2_with fail
    refine (Witness_any As cs p Ad cd days 0 W HPD.out.pol HPD.out.dys ⟨hcd, hmd⟩).mono ?_
    rintro e w3 ⟨rfl, b3⟩
    rw [HN.out.2]
    have B3 := Lib.hid b3
    clear b3
    go_wp2_with fail
    refine (awake_any _).mono ?_
    rintro e w4 ⟨rfl, b4⟩
    have B4 := Lib.hid b4
    clear b4
    go_wp2_with fail
    go_ret
    have bb : Below w.heap.size w w3 := (HPD.out.below B3.out).bel
    exact ⟨rfl, (bb.alloc bb.size _).trans (B4.out.mono (by have := bb.size; simp; omega))⟩
  · have hnb : ((days.length : Int) == 0) = false := by simp [hn]
    have hnp : 0 < days.length := by omega
    clear hn
    go_wp2_with fail
    refine (dec_ok cd HD.out.2.1 HPD.out (by omega)).mono ?_
    rintro e X1 ⟨Ac, cc, rfl, rdc, b1⟩
    have pd1 := HPD.out.below b1
    have HP1 := Lib.hid pd1
    clear q0 q1 q2 q3 q4 zp b1
    obtain ⟨q0, q1, q2, q3, q4, zp⟩ := pd1.cells
    clear pd1
    obtain ⟨d, hd⟩ : ∃ d : Nat, dy % (days.length : Int) = d := ⟨(dy % (days.length : Int)).toNat, by have := Int.emod_nonneg dy (b := (days.length : Int)) (by omega); omega⟩
    obtain ⟨k, hk⟩ : ∃ k : Nat, st % (p.steps.length : Int) = k := ⟨(st % (p.steps.length : Int)).toNat, by have := Int.emod_nonneg st (b := (p.steps.length : Int)) (by omega); omega⟩
    obtain ⟨a, ha⟩ : ∃ a : Nat, fr % (days.length : Int) = a := ⟨(fr % (days.length : Int)).toNat, by have := Int.emod_nonneg fr (b := (days.length : Int)) (by omega); omega⟩
    have hdn : d < days.length := by have := Int.emod_lt_of_pos dy (b := (days.length : Int)) (by omega); omega
    have hks : k < p.steps.length := by have := Int.emod_lt_of_pos st (b := (p.steps.length : Int)) (by omega); omega
    have han : a < days.length := by have := Int.emod_lt_of_pos fr (b := (days.length : Int)) (by omega); omega
    have t1 : dy.tmod (days.length : Int) = d := by rw [Int.tmod_eq_emod_of_nonneg (by omega)]; exact hd
    have t2 : st.tmod (p.steps.length : Int) = k := by rw [Int.tmod_eq_emod_of_nonneg (by omega)]; exact hk
    have t3 : IntKind.i64.wrap dy = dy := IntWalk.i64_in _ (by omega)
    have t4 : IntKind.i64.wrap st = st := IntWalk.i64_in _ (by omega)
    have t5 : IntKind.i64.wrap (d : Int) = d := IntWalk.i64_in _ (by omega)
    have t6 : IntKind.i64.wrap (k : Int) = k := IntWalk.i64_in _ (by omega)
    have t7 : ¬ (days.length = 0) := by omega
    have t8 : ¬ (p.steps.length = 0) := by omega
    have HM := Lib.hid ha
    clear hd hk ha
    go_upto_region 8 with fail
    go_quiet (fail)
    obtain ⟨V, hV⟩ : ∃ V, V = X1.drewN nq := ⟨_, rfl⟩
    rw [← hV]
    have bV : Below X1.heap.size X1 V := by rw [hV]; exact drewB (Below.refl _ _) _
    have HPV := Lib.hid (HP1.out.below bV)
    have HRV := Lib.hid (rdc.below bV)
    clear q0 q1 q2 q3 q4 zp t1 t2 t3 t4 t5 t6 t7 t8 bV rdc hV HP1
    obtain ⟨q0, q1, q2, q3, q4, zp⟩ := HPV.out.cells
    have u1 : fr.tmod (days.length : Int) = a := by rw [Int.tmod_eq_emod_of_nonneg (by omega)]; exact HM.out
    have u2 : fr % (days.length : Int) = a := HM.out
    go_upto_region 11 with fail
    obtain ⟨z, hz⟩ : ∃ z : Nat, (a : Int) + p.hold - 1 = z := ⟨((a : Int) + p.hold - 1).toNat, by omega⟩
    rw [hz]
    have hzb : a ≤ z ∧ z ≤ 200 := by omega
    have HZ := Lib.hid hz
    clear hz u1 u2
    obtain ⟨U, hU⟩ : ∃ U, U = V.alloc (.cells #[.int .i64 a, .int .i64 z] 42) := ⟨_, rfl⟩
    obtain ⟨sb, hsb⟩ : ∃ sb, sb = V.heap.size := ⟨_, rfl⟩
    rw [← hU, ← hsb]
    have bU : Below V.heap.size V U := by rw [hU]; exact (Below.refl _ _).alloc (Nat.le_refl _) _
    have sh : U.heap[sb]? = some (.cells #[.int .i64 a, .int .i64 z] 42 (0, 0)) := by rw [hU, hsb]; exact heap_alloc_new _ _
    have FU : ∀ X, Below U.heap.size U X → PD w X pb As cs p Ad days ∧ (X.cell? ⟨sb, 0, none⟩ = some (.int .i64 a) ∧ X.cell? ⟨sb, 1, none⟩ = some (.int .i64 z) ∧ sb < X.heap.size) ∧ Rd X 1 Ac days.length (ints (decidedS p days)) := by
      intro X hX
      have h5 := (hX.block _ (heap_lt sh)).trans sh
      exact ⟨(HPV.out.below bU).below hX, ⟨(cell_of_heap h5 0).trans rfl, (cell_of_heap h5 1).trans rfl, heap_lt h5⟩, (HRV.out.below bU).below hX⟩
    have HF := Lib.hid FU
    clear hU hsb bU sh FU q0 q1 q2 q3 q4 zp HPV HRV
    obtain ⟨pdU, ⟨s0, s1, sz⟩, rdU⟩ := HF.out U (Below.refl _ _)
    obtain ⟨q0, q1, q2, q3, q4, zp⟩ := pdU.cells
    have HPU := Lib.hid pdU
    clear pdU rdU
    obtain ⟨B, hB⟩ : ∃ B, B = showsS p days (keptS p days) d k a z := ⟨_, rfl⟩
    obtain ⟨dc, hdc⟩ : ∃ dc : Nat, (decidedS p days).getD d 0 = (dc : Int) := ⟨((decidedS p days).getD d 0).toNat, by have := dec_step HD.out.1 days d; have := this.1; omega⟩
    have hdcs : dc < p.steps.length := by have := dec_step HD.out.1 days d; rw [hdc] at this; have := this.2; omega
    have HB := Lib.hid (And.intro hB hdc)
    clear hB hdc
    go_wp2_with fail
    refine (shows_ok cd HD.out.2.1 HPU.out ⟨hcd, hmd⟩ hdn hks a z (by omega)).mono ?_
    rintro e X2 ⟨rfl, b2⟩
    rw [← HB.out.1]
    clear q0 q1 q2 q3 q4 zp s0 s1 sz
    obtain ⟨pd2, ⟨s0, s1, sz⟩, rd2⟩ := HF.out X2 b2
    obtain ⟨q0, q1, q2, q3, q4, zp⟩ := pd2.cells
    have B2 := Lib.hid b2
    obtain ⟨bd, od, rfl, hbd, hcd2⟩ := rd2.2 (by omega)
    have HCD : Hid (∀ X, Below U.heap.size U X → ∀ m : Nat, m < days.length → X.cell? ⟨bd, od + m, none⟩ = some (.int .i64 ((decidedS p days).getD m 0))) := Lib.hid (by
      intro X hX m hm
      obtain ⟨_, _, rdX⟩ := HF.out X hX
      obtain ⟨b', o', e1, _, hcc⟩ := rdX.2 (by omega)
      injection e1 with e1
      injection e1 with e1 e2 _
      subst e1 e2
      exact hcc m _ (ints_get (by rw [decidedS_length]; exact hm)))
    have cd0 : X2.cell? ⟨bd, od + d, none⟩ = some (.int .i64 dc) := by rw [← HB.out.2]; exact HCD.out X2 B2.out d hdn
    clear pd2 rd2 hcd2 b2
    cases B
    · go_wp2_with fail
      go_loopw [21] (fun n wr => n = .int .i64 z ∧ wr = X2) (fun _ _ => 0)
      case atStart => exact ⟨rfl, rfl⟩
      case round =>
        obtain ⟨rfl, hwx⟩ := hrel
        obtain ⟨X, hX⟩ : ∃ X, X = X2 := ⟨_, rfl⟩
        obtain rfl : wr = X := hwx.trans hX.symm
        have HBX : Hid (Below U.heap.size U wr) := Lib.hid (by rw [hX]; exact B2.out)
        clear q0 q1 q2 q3 q4 zp s0 s1 sz cd0 hX hwx
        obtain ⟨X, rfl⟩ : ∃ X, X = wr := ⟨_, rfl⟩
        have pdX := (HF.out X HBX.out)
        obtain ⟨pd3, ⟨s0, s1, sz⟩, rd3⟩ := pdX
        obtain ⟨q0, q1, q2, q3, q4, zp⟩ := pd3.cells
        have cd0 : X.cell? ⟨bd, od + d, none⟩ = some (.int .i64 dc) := by rw [← HB.out.2]; exact HCD.out X HBX.out d hdn
        have hbx : bd < X.heap.size := World.block_lt_of_cell? _ _ cd0
        have HP3 := Lib.hid pd3
        clear pd3 rd3
        by_cases hj : dc = 0
        · subst hj
          have hwt := wit_zero HD.out.2.1 hdn HB.out.2
          have HWT := Lib.hid hwt
          clear hwt
          go_wp2_with fail
          refine (Witness_any As cs p Ad cd days d X HP3.out.pol HP3.out.dys ⟨hcd, hmd⟩).mono ?_
          rintro e X3 ⟨rfl, b3⟩
          rw [HWT.out]
          have cd3 := (b3.cell (p := ⟨bd, od + d, none⟩) hbx).trans cd0
          have hbx3 : bd < X3.heap.size := Nat.lt_of_lt_of_le hbx b3.size
          have B3 := Lib.hid b3
          clear b3 q0 q1 q2 q3 q4 zp s0 s1 sz cd0 hbx
          go_wp2_with fail
          refine (awake_any _).mono ?_
          rintro e X4 ⟨rfl, b4⟩
          have B4 := Lib.hid b4
          clear b4
          go_wp2_with fail
          go_ret
          have bb : Below w.heap.size w X3 := (HP3.out.below B3.out).bel
          exact ⟨rfl, (bb.alloc bb.size _).trans (B4.out.mono (by have := bb.size; simp; omega))⟩
        · have hjb : ((dc : Int) == 0) = false := by simp; omega
          obtain ⟨⟨x1, x2⟩, hx, hsh⟩ := witness_is (p := p) (days := days) (d := d) (j := dc) HD.out.1 (by omega) hdcs hdn HB.out.2
          have hwt := wit_pos HD.out.2.1 hdn HB.out.2 (by omega) hx
          have hx0 := wit_hi hx
          have HWT := Lib.hid (And.intro hwt hsh)
          simp only at hx0
          clear hwt hsh hx
          go_wp2_with fail
          refine (Witness_any As cs p Ad cd days d X HP3.out.pol HP3.out.dys ⟨hcd, hmd⟩).mono ?_
          rintro e X3 ⟨rfl, b3⟩
          rw [HWT.out.1]
          have cd3 := (b3.cell (p := ⟨bd, od + d, none⟩) hbx).trans cd0
          have hbx3 : bd < X3.heap.size := Nat.lt_of_lt_of_le hbx b3.size
          have pd4 := HP3.out.below b3
          clear q0 q1 q2 q3 q4 zp s0 s1 sz cd0 hbx
          obtain ⟨q0, q1, q2, q3, q4, zp⟩ := pd4.cells
          have HP4 := Lib.hid pd4
          clear b3 pd4
          go_upto_region 23 with fail
          obtain ⟨Y, hY⟩ : ∃ Y, Y = X3.alloc (.cells #[.int .i64 x1, .int .i64 x2] 42) := ⟨_, rfl⟩
          obtain ⟨tb, htb⟩ : ∃ tb, tb = X3.heap.size := ⟨_, rfl⟩
          rw [← hY, ← htb]
          have bY : Below X3.heap.size X3 Y := by rw [hY]; exact (Below.refl _ _).alloc (Nat.le_refl _) _
          have th : Y.heap[tb]? = some (.cells #[.int .i64 x1, .int .i64 x2] 42 (0, 0)) := by rw [hY, htb]; exact heap_alloc_new _ _
          have t0 : Y.cell? ⟨tb, 0, none⟩ = some (.int .i64 x1) := (cell_of_heap th 0).trans rfl
          have t1 : Y.cell? ⟨tb, 1, none⟩ = some (.int .i64 x2) := (cell_of_heap th 1).trans rfl
          have tz := heap_lt th
          have pdY := HP4.out.below bY
          have cdY := (bY.cell (p := ⟨bd, od + d, none⟩) hbx3).trans cd3
          have hbY : bd < Y.heap.size := Nat.lt_of_lt_of_le hbx3 bY.size
          have HPY := Lib.hid pdY
          clear q0 q1 q2 q3 q4 zp cd3 hbx3 hY htb bY th HP4 pdY
          obtain ⟨q0, q1, q2, q3, q4, zp⟩ := HPY.out.cells
          have n1 : (0 : Int) ≤ (d : Int) := by omega
          have n2 : (d : Int) < (days.length : Int) := by omega
          go_region_held3 (fun w' => w'.cell? ⟨pb, 0, none⟩ = some (.slice As p.steps.length cs) ∧ w'.cell? ⟨pb, 1, none⟩ = some (.int .i64 p.hold) ∧ w'.cell? ⟨pb, 2, none⟩ = some (.int .i64 p.calm) ∧ w'.cell? ⟨pb, 3, none⟩ = some (.int .i64 p.notice) ∧ w'.cell? ⟨pb, 4, none⟩ = some (.int .i64 p.grace) ∧ w'.cell? ⟨tb, 0, none⟩ = some (.int .i64 x1) ∧ w'.cell? ⟨tb, 1, none⟩ = some (.int .i64 x2) ∧ w'.cell? ⟨bd, od + d, none⟩ = some (.int .i64 dc)) (first | exact ⟨q0, q1, q2, q3, q4, t0, t1, cdY⟩ | exact SH.out)
            (first
              | (go_at_call 20
                 refine (shows_ok cd HD.out.2.1 (HPY.out.below (Below.refl _ _).drew) ⟨hcd, hmd⟩ hdn hdcs x1 x2 (by omega)).mono ?_
                 rintro e X5 ⟨rfl, b5⟩
                 rw [HWT.out.2]
                 have SH := Lib.hid (And.intro ((b5.cell (p := ⟨pb, 0, none⟩) zp).trans q0) (And.intro ((b5.cell (p := ⟨pb, 1, none⟩) zp).trans q1) (And.intro ((b5.cell (p := ⟨pb, 2, none⟩) zp).trans q2) (And.intro ((b5.cell (p := ⟨pb, 3, none⟩) zp).trans q3) (And.intro ((b5.cell (p := ⟨pb, 4, none⟩) zp).trans q4) (And.intro ((b5.cell (p := ⟨tb, 0, none⟩) tz).trans t0) (And.intro ((b5.cell (p := ⟨tb, 1, none⟩) tz).trans t1) ((b5.cell (p := ⟨bd, od + d, none⟩) hbY).trans cdY))))))))
                 have B5 := Lib.hid b5
                 clear b5))
          clear q0 q1 q2 q3 q4 zp t0 t1 tz cdY hbY SH
          go_wp2_with fail
          refine (awake_any _).mono ?_
          rintro e X6 ⟨rfl, b6⟩
          have B6 := Lib.hid b6
          clear b6
          go_wp2_with fail
          go_ret
          have bb : Below w.heap.size w X5 := (HPY.out.below ((Below.refl _ _).drew.trans B5.out)).bel
          exact ⟨rfl, bb.trans (B6.out.mono bb.size)⟩
    · have hzd : z ≤ d := by
        rcases Nat.lt_or_ge d z with h | h
        · have := HB.out.1; rw [shows_not h] at this; cases this
        · exact h
      have hsn := shown_dec HD.out.1 hks hdn (by have := HZ.out; omega) HB.out.1.symm
      have hdk : ¬ (dc : Int) < (k : Int) := by have := hsn.1; rw [HB.out.2] at this; omega
      have hdkb : decide (dc < k) = false := by simp; omega
      have HS := Lib.hid hsn.2
      clear hsn
      go_wp2_with fail
      go_loopw [21] (fun n wr => ∃ m : Nat, z ≤ m ∧ m ≤ d + 1 ∧ n = .int .i64 m ∧ Below U.heap.size U wr) (fun n _ => d + 1 - (intOf n).toNat)
      case atStart => exact ⟨z, Nat.le_refl _, by omega, rfl, B2.out⟩
      case round =>
        obtain ⟨m, hm1, hm2, rfl, hbx⟩ := hrel
        have HBX := Lib.hid hbx
        clear q0 q1 q2 q3 q4 zp s0 s1 sz cd0 hbx
        by_cases hmd' : m ≤ d
        · obtain ⟨pd3, ⟨s0, s1, sz⟩, rd3⟩ := HF.out wr HBX.out
          obtain ⟨q0, q1, q2, q3, q4, zp⟩ := pd3.cells
          have HP3 := Lib.hid pd3
          have hsm := HS.out m hm1 hmd'
          obtain ⟨dm, hdm⟩ : ∃ y, y = (decidedS p days).getD m 0 := ⟨_, rfl⟩
          have hkm : ¬ dm < (k : Int) := by have := hsm.2; rw [hdm]; omega
          have HSM := Lib.hid (And.intro hsm.1 hdm)
          clear pd3 rd3 hsm hdm
          go_wp2_with fail
          refine (shows_ok cd HD.out.2.1 HP3.out ⟨hcd, hmd⟩ (d := m) (by omega) hks a z (by omega)).mono ?_
          rintro e X4 ⟨rfl, b4⟩
          rw [HSM.out.1]
          have b04 : Below U.heap.size U X4 := HBX.out.trans (b4.mono HBX.out.size)
          have cdm : X4.cell? ⟨bd, od + m, none⟩ = some (.int .i64 dm) := by rw [HSM.out.2]; exact HCD.out X4 b04 m (by omega)
          have HB04 := Lib.hid b04
          clear b04 b4 q0 q1 q2 q3 q4 zp s0 s1 sz
          go_wp2_with fail
          go_roundw
          case measure => simp [intOf]; omega
          case rel => exact ⟨m + 1, by omega, by omega, by go_num, HB04.out⟩
        · obtain ⟨X, rfl⟩ : ∃ X, X = wr := ⟨_, rfl⟩
          have pdX := (HF.out X HBX.out)
          obtain ⟨pd3, ⟨s0, s1, sz⟩, rd3⟩ := pdX
          obtain ⟨q0, q1, q2, q3, q4, zp⟩ := pd3.cells
          have cd0 : X.cell? ⟨bd, od + d, none⟩ = some (.int .i64 dc) := by rw [← HB.out.2]; exact HCD.out X HBX.out d hdn
          have hbx : bd < X.heap.size := World.block_lt_of_cell? _ _ cd0
          have HP3 := Lib.hid pd3
          clear pd3 rd3
          by_cases hj : dc = 0
          · subst hj
            have hwt := wit_zero HD.out.2.1 hdn HB.out.2
            have HWT := Lib.hid hwt
            clear hwt
            go_wp2_with fail
            refine (Witness_any As cs p Ad cd days d X HP3.out.pol HP3.out.dys ⟨hcd, hmd⟩).mono ?_
            rintro e X3 ⟨rfl, b3⟩
            rw [HWT.out]
            have cd3 := (b3.cell (p := ⟨bd, od + d, none⟩) hbx).trans cd0
            have hbx3 : bd < X3.heap.size := Nat.lt_of_lt_of_le hbx b3.size
            have B3 := Lib.hid b3
            clear b3 q0 q1 q2 q3 q4 zp s0 s1 sz cd0 hbx
            go_wp2_with fail
            refine (awake_any _).mono ?_
            rintro e X4 ⟨rfl, b4⟩
            have B4 := Lib.hid b4
            clear b4
            go_wp2_with fail
            go_ret
            have bb : Below w.heap.size w X3 := (HP3.out.below B3.out).bel
            exact ⟨rfl, (bb.alloc bb.size _).trans (B4.out.mono (by have := bb.size; simp; omega))⟩
          · have hjb : ((dc : Int) == 0) = false := by simp; omega
            obtain ⟨⟨x1, x2⟩, hx, hsh⟩ := witness_is (p := p) (days := days) (d := d) (j := dc) HD.out.1 (by omega) hdcs hdn HB.out.2
            have hwt := wit_pos HD.out.2.1 hdn HB.out.2 (by omega) hx
            have hx0 := wit_hi hx
            have HWT := Lib.hid (And.intro hwt hsh)
            simp only at hx0
            clear hwt hsh hx
            go_wp2_with fail
            refine (Witness_any As cs p Ad cd days d X HP3.out.pol HP3.out.dys ⟨hcd, hmd⟩).mono ?_
            rintro e X3 ⟨rfl, b3⟩
            rw [HWT.out.1]
            have cd3 := (b3.cell (p := ⟨bd, od + d, none⟩) hbx).trans cd0
            have hbx3 : bd < X3.heap.size := Nat.lt_of_lt_of_le hbx b3.size
            have pd4 := HP3.out.below b3
            clear q0 q1 q2 q3 q4 zp s0 s1 sz cd0 hbx
            obtain ⟨q0, q1, q2, q3, q4, zp⟩ := pd4.cells
            have HP4 := Lib.hid pd4
            clear b3 pd4
            go_upto_region 23 with fail
            obtain ⟨Y, hY⟩ : ∃ Y, Y = X3.alloc (.cells #[.int .i64 x1, .int .i64 x2] 42) := ⟨_, rfl⟩
            obtain ⟨tb, htb⟩ : ∃ tb, tb = X3.heap.size := ⟨_, rfl⟩
            rw [← hY, ← htb]
            have bY : Below X3.heap.size X3 Y := by rw [hY]; exact (Below.refl _ _).alloc (Nat.le_refl _) _
            have th : Y.heap[tb]? = some (.cells #[.int .i64 x1, .int .i64 x2] 42 (0, 0)) := by rw [hY, htb]; exact heap_alloc_new _ _
            have t0 : Y.cell? ⟨tb, 0, none⟩ = some (.int .i64 x1) := (cell_of_heap th 0).trans rfl
            have t1 : Y.cell? ⟨tb, 1, none⟩ = some (.int .i64 x2) := (cell_of_heap th 1).trans rfl
            have tz := heap_lt th
            have pdY := HP4.out.below bY
            have cdY := (bY.cell (p := ⟨bd, od + d, none⟩) hbx3).trans cd3
            have hbY : bd < Y.heap.size := Nat.lt_of_lt_of_le hbx3 bY.size
            have HPY := Lib.hid pdY
            clear q0 q1 q2 q3 q4 zp cd3 hbx3 hY htb bY th HP4 pdY
            obtain ⟨q0, q1, q2, q3, q4, zp⟩ := HPY.out.cells
            have n1 : (0 : Int) ≤ (d : Int) := by omega
            have n2 : (d : Int) < (days.length : Int) := by omega
            go_region_held3 (fun w' => w'.cell? ⟨pb, 0, none⟩ = some (.slice As p.steps.length cs) ∧ w'.cell? ⟨pb, 1, none⟩ = some (.int .i64 p.hold) ∧ w'.cell? ⟨pb, 2, none⟩ = some (.int .i64 p.calm) ∧ w'.cell? ⟨pb, 3, none⟩ = some (.int .i64 p.notice) ∧ w'.cell? ⟨pb, 4, none⟩ = some (.int .i64 p.grace) ∧ w'.cell? ⟨tb, 0, none⟩ = some (.int .i64 x1) ∧ w'.cell? ⟨tb, 1, none⟩ = some (.int .i64 x2) ∧ w'.cell? ⟨bd, od + d, none⟩ = some (.int .i64 dc)) (first | exact ⟨q0, q1, q2, q3, q4, t0, t1, cdY⟩ | exact SH.out)
              (first
                | (go_at_call 20
                   refine (shows_ok cd HD.out.2.1 (HPY.out.below (Below.refl _ _).drew) ⟨hcd, hmd⟩ hdn hdcs x1 x2 (by omega)).mono ?_
                   rintro e X5 ⟨rfl, b5⟩
                   rw [HWT.out.2]
                   have SH := Lib.hid (And.intro ((b5.cell (p := ⟨pb, 0, none⟩) zp).trans q0) (And.intro ((b5.cell (p := ⟨pb, 1, none⟩) zp).trans q1) (And.intro ((b5.cell (p := ⟨pb, 2, none⟩) zp).trans q2) (And.intro ((b5.cell (p := ⟨pb, 3, none⟩) zp).trans q3) (And.intro ((b5.cell (p := ⟨pb, 4, none⟩) zp).trans q4) (And.intro ((b5.cell (p := ⟨tb, 0, none⟩) tz).trans t0) (And.intro ((b5.cell (p := ⟨tb, 1, none⟩) tz).trans t1) ((b5.cell (p := ⟨bd, od + d, none⟩) hbY).trans cdY))))))))
                   have B5 := Lib.hid b5
                   clear b5))
            clear q0 q1 q2 q3 q4 zp t0 t1 tz cdY hbY SH
            go_wp2_with fail
            refine (awake_any _).mono ?_
            rintro e X6 ⟨rfl, b6⟩
            have B6 := Lib.hid b6
            clear b6
            go_wp2_with fail
            go_ret
            have bb : Below w.heap.size w X5 := (HPY.out.below ((Below.refl _ _).drew.trans B5.out)).bel
            exact ⟨rfl, bb.trans (B6.out.mono bb.size)⟩
end Go.Proofs.Ytfmhlnfcbbpfeaa
