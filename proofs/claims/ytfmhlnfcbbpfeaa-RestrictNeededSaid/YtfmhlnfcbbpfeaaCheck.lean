/- restrict.Check -/
import Derived.Test.YtfmhlnfcbbpfeaaLeaf
import Derived.Test.YtfmhlnfcbbpfeaaMem
import Derived.Test.YtfmhlnfcbbpfeaaRange
import Derived.Test.YtfmhlnfcbbpfeaaSpecC
import Derived.Laws.StructEq
namespace Go.Proofs.Ytfmhlnfcbbpfeaa
open Go Go.RowKit Sp

theorem stp_neq (s : Stp) (w : World) : (binOp .neq 74 (.agg #[.int .i64 s.cls, .int .i64 s.ton, .int .i64 s.up, .int .i64 s.dn]) (.agg #[.int .i64 0, .int .i64 0, .int .i64 0, .int .i64 0])).run Try.prog w = .ok (.bool (!decide (s = ⟨0, 0, 0, 0⟩))) w := by
  have u3 := Try.underlying3
  have a3 := Try.isAgg3
  have z3 := Try.sizeOf3
  have hS : Try.prog.underlying 74 = some (.struct (Try.prog.fieldsOf 74)) := by kernel_rfl
  have hp : Try.prog.stoodInHeld 74 = false := by kernel_rfl
  rw [run_neq_struct, show (10000 : Nat) = 9999 + 1 from rfl, run_equalIn_agg w 9999 74 _ _ hS hp]
  simp only [Program.fieldsOf, Try.underlying74]
  go_simp
  obtain ⟨a, b, c, d⟩ := s
  by_cases h1 : a = 0 <;> by_cases h2 : b = 0 <;> by_cases h3 : c = 0 <;> by_cases h4 : d = 0 <;> simp [h1, h2, h3, h4]

/-- a policy as a value -/
def PolV (w : World) (A : Option Addr) (c : Nat) (p : Pol) : Prop := p.steps.length ≤ c ∧ c ≤ maxLen ∧ Rd w 4 A p.steps.length (stcs p.steps)

set_option maxRecDepth 100000 in
set_option maxHeartbeats 2000000 in
theorem check_any (A : Option Addr) (c : Nat) (p : Pol) (w : World) (hp : PolV w A c p) :
    Calls Try.prog 34 #[.agg #[.slice A p.steps.length c, .int .i64 p.hold, .int .i64 p.calm, .int .i64 p.notice, .int .i64 p.grace]] w fun e w' => e = .returned (.int .i64 (checkS p)) ∧ Below w.heap.size w w' := by
  obtain ⟨h1, h2, hr⟩ := hp
  unfold maxLen at h2
  cases hw : within p.steps.length 1 8
  · go_enter Try.func34, Try.ntmps34
    go_wp2_with (go_at_call 76; refine (within_any _ _ _ _).mono ?_; rintro e w' ⟨rfl, rfl⟩)
    go_ret
    exact ⟨by simp [checkS, hw], (Below.refl _ _).alloc (Nat.le_refl _) _⟩
  · have hlen : 1 ≤ p.steps.length ∧ p.steps.length ≤ 8 := by simp [within] at hw; omega
    obtain ⟨b, off, rfl, hb, hc⟩ := hr.2 (by omega)
    obtain ⟨a0, a1, a2, a3⟩ := stcs_get (l := p.steps) (k := 0) (by omega)
    have c0 := hc _ _ a0
    have c1 := hc _ _ a1
    have c2 := hc _ _ a2
    have c3 := hc _ _ a3
    simp only [Nat.zero_mul, Nat.add_zero, Nat.zero_add] at c0 c1 c2 c3
    obtain ⟨s0, hs0⟩ : ∃ s0, s0 = p.steps[0]'(by omega) := ⟨_, rfl⟩
    rw [← hs0] at c0 c1 c2 c3
    have hh0 : p.steps.headD default = s0 := by
      rw [hs0, ← List.getD_eq_getElem?_getD.trans (by rw [List.getElem?_eq_getElem (by omega)]; rfl : (p.steps[0]?).getD default = p.steps[0]'(by omega))]
      cases p.steps <;> simp
    have hl1 : (0 : Int) < (p.steps.length : Int) := by omega
    obtain ⟨z, hz⟩ : ∃ z, z = !decide (s0 = ⟨0, 0, 0, 0⟩) := ⟨_, rfl⟩
    have hne : ∀ w, (binOp .neq 74 (.agg #[.int .i64 s0.cls, .int .i64 s0.ton, .int .i64 s0.up, .int .i64 s0.dn]) (.agg #[.int .i64 0, .int .i64 0, .int .i64 0, .int .i64 0])).run Try.prog w = .ok (.bool z) w := fun w => by rw [hz]; exact stp_neq s0 w
    have HH := Lib.hid (And.intro hh0 (And.intro hlen hz))
    clear a0 a1 a2 a3 hs0 hh0 hlen hz
    cases z
    case' true =>
      go_enter Try.func34, Try.ntmps34
      go_wp2_with (go_at_call 76; refine (within_any _ _ _ _).mono ?_; rintro e w' ⟨rfl, rfl⟩)
      all_goals (go_ret; refine ⟨?_, (Below.refl _ _).alloc (Nat.le_refl _) _⟩; rw [check_bad hw (by unfold badGlob; rw [HH.out.1, ← HH.out.2.2]; simp [*])]; rfl)
    go_enter Try.func34, Try.ntmps34
    go_upto_region 5 with (go_at_call 76; refine (within_any _ _ _ _).mono ?_; rintro e w' ⟨rfl, rfl⟩)
    any_goals (go_ret; refine ⟨?_, (Below.refl _ _).alloc (Nat.le_refl _) _⟩; rw [check_bad hw (by unfold badGlob; rw [HH.out.1]; simp [*])]; rfl)
    have hbg : badGlob p = false := by unfold badGlob; rw [HH.out.1, ← HH.out.2.2]; simp [*]
    have HG := Lib.hid hbg
    clear hbg hne c0 c1 c2 c3
    go_wp2_with fail
    have B0 : Below w.heap.size w (w.alloc (.cells #[.slice (some ⟨b, off, none⟩) p.steps.length c, .int .i64 p.hold, .int .i64 p.calm, .int .i64 p.notice, .int .i64 p.grace] 25)) := (Below.refl _ _).alloc (Nat.le_refl _) _
    obtain ⟨W, hW⟩ : ∃ W, W = w.alloc (.cells #[.slice (some ⟨b, off, none⟩) p.steps.length c, .int .i64 p.hold, .int .i64 p.calm, .int .i64 p.notice, .int .i64 p.grace] 25) := ⟨_, rfl⟩
    have fp0 : W.cell? ⟨w.heap.size, 0, none⟩ = some (.slice (some ⟨b, off, none⟩) p.steps.length c) := by rw [hW]; simp [World.cell?_alloc_new]
    rw [← hW] at B0 ⊢
    obtain ⟨bx, hbx⟩ : ∃ bx, bx = w.heap.size := ⟨_, rfl⟩
    rw [← hbx] at fp0 ⊢
    have HB := Lib.hid (And.intro B0 (And.intro hbx hr))
    clear hW B0 hbx
    go_loopg [44] (p.steps.length) (fun g i wr => ∃ k : Nat, g + k = p.steps.length ∧ i = .int .i64 k ∧ stepsOkN p.steps k = true ∧ Keep [] W wr)
    case atStart => exact ⟨0, rfl, rfl, rfl, Keep.refl _ _⟩
    case round =>
      obtain ⟨k, hk, rfl, hok, hK⟩ := hrel
      by_cases hlt : k < p.steps.length
      · have b0 := HB.out.1
        have bB : Below w.heap.size w wr := b0.trans (hK.below b0.size (by simp))
        have cw : ∀ {o : Nat} {u : Value}, w.cell? ⟨b, o, none⟩ = some u → wr.cell? ⟨b, o, none⟩ = some u := fun h => (bB.cell (p := ⟨b, _, none⟩) hb).trans h
        obtain ⟨a0, a1, a2, a3⟩ := stcs_get hlt
        have d0 := cw (hc _ _ a0)
        have d1 : wr.cell? ⟨b, off + k * 4 + 1, none⟩ = some (.int .i64 p.steps[k].ton) := cw (hc _ _ a1)
        have d2 : wr.cell? ⟨b, off + k * 4 + 2, none⟩ = some (.int .i64 p.steps[k].up) := cw (hc _ _ a2)
        have d3 : wr.cell? ⟨b, off + k * 4 + 3, none⟩ = some (.int .i64 p.steps[k].dn) := cw (hc _ _ a3)
        have fpr := hK.cell fp0 (by simp)
        have hsz : bx < wr.heap.size := World.block_lt_of_cell? wr _ fpr
        have hbl : b < wr.heap.size := Nat.lt_of_lt_of_le hb bB.size
        obtain ⟨st, hst⟩ : ∃ st, st = p.steps.getD k default := ⟨_, rfl⟩
        have hst' : p.steps[k] = st := by rw [hst, List.getD_eq_getElem?_getD, List.getElem?_eq_getElem hlt]; rfl
        rw [hst'] at d0 d1 d2 d3
        have HI := Lib.hid (And.intro hok (And.intro hK (And.intro bB hst)))
        have HC := Lib.hid hc
        clear hst' a0 a1 a2 a3 fp0 b0 bB hok hK hst hc
        by_cases hk0 : k = 0
        · subst hk0
          simp only [Nat.zero_mul, Nat.add_zero] at d0 d1 d2 d3
          go_wp2_with (go_at_call 76; refine (within_any _ _ _ _).mono ?_; rintro e w' ⟨rfl, rfl⟩)
          any_goals (go_ret; refine ⟨?_, HI.out.2.2.1.alloc HI.out.2.2.1.size _⟩; rw [check_not hw hlt (goodAt_bad HI.out.2.2.2 (by unfold goodStep; first | (simp [*]; done) | (rw [bnot_true (b := within st.dn 0 st.up) (by assumption)]; simp)))]; rfl)
          go_roundg (gk - 1)
          case measure => omega
          case rel => exact ⟨0 + 1, by omega, by go_num, stepsOkN_succ HI.out.1 (goodAt_zero HI.out.2.2.2 (goodStep_mk (by first | assumption | exact bnot_false (by assumption)) (by first | assumption | exact bnot_false (by assumption)) (by first | assumption | exact bnot_false (by assumption)) (by first | assumption | exact bnot_false (by assumption)))), HI.out.2.1.alloc _⟩
        · obtain ⟨a0, a1, a2, a3⟩ := stcs_get (l := p.steps) (k := k - 1) (by omega)
          have e0 := cw (HC.out _ _ a0)
          have e1 : wr.cell? ⟨b, off + (k - 1) * 4 + 1, none⟩ = some (.int .i64 (p.steps[k - 1]'(by omega)).ton) := cw (HC.out _ _ a1)
          have e2 : wr.cell? ⟨b, off + (k - 1) * 4 + 2, none⟩ = some (.int .i64 (p.steps[k - 1]'(by omega)).up) := cw (HC.out _ _ a2)
          have e3 : wr.cell? ⟨b, off + (k - 1) * 4 + 3, none⟩ = some (.int .i64 (p.steps[k - 1]'(by omega)).dn) := cw (HC.out _ _ a3)
          obtain ⟨pv, hpv⟩ : ∃ pv, pv = p.steps.getD (k - 1) default := ⟨_, rfl⟩
          have hpv' : p.steps[k - 1]'(by omega) = pv := by rw [hpv, List.getD_eq_getElem?_getD, List.getElem?_eq_getElem (by omega)]; rfl
          rw [hpv'] at e0 e1 e2 e3
          have HV := Lib.hid hpv
          have hk1 : (1 : Int) ≤ (k : Int) := by omega
          have hkz : ((k : Int) == 0) = false := by simp; omega
          have hkl : (k : Int) - 1 < (p.steps.length : Int) := by omega
          clear a0 a1 a2 a3 hpv hpv'
          go_wp2_with (go_at_call 76; refine (within_any _ _ _ _).mono ?_; rintro e w' ⟨rfl, rfl⟩)
          any_goals (go_ret; refine ⟨?_, by first | exact HI.out.2.2.1.alloc HI.out.2.2.1.size _ | exact (HI.out.2.2.1.alloc HI.out.2.2.1.size _).alloc (by have := HI.out.2.2.1.size; simp; omega) _⟩; first | (rw [check_not hw hlt (goodAt_badp hk0 HI.out.2.2.2 HV.out (by simp [goodPair]; omega))]; rfl) | (rw [check_not hw hlt (goodAt_bad HI.out.2.2.2 (by unfold goodStep; first | (simp [*]; done) | (rw [bnot_true (b := within st.dn 0 st.up) (by assumption)]; simp)))]; rfl))
          go_roundg (gk - 1)
          case measure => omega
          case rel => exact ⟨k + 1, by omega, by go_num, stepsOkN_succ HI.out.1 (goodAt_succ HI.out.2.2.2 HV.out (goodStep_mk (by first | assumption | exact bnot_false (by assumption)) (by first | assumption | exact bnot_false (by assumption)) (by first | assumption | exact bnot_false (by assumption)) (by first | assumption | exact bnot_false (by assumption))) (goodPair_mk (by omega) (by omega) (by omega) (by omega))), (HI.out.2.1.alloc _).alloc _⟩
      · obtain rfl : k = p.steps.length := by omega
        have HOK := Lib.hid hok
        clear hok
        go_wp2_with fail
        go_ret
        have b0 := HB.out.1
        exact ⟨by rw [check_yes hw HG.out HOK.out]; rfl, b0.trans (hK.below b0.size (by simp))⟩
end Go.Proofs.Ytfmhlnfcbbpfeaa
