/- polynyaref08: in, Check, begun -/
import Derived.Test.YtbgnkljjgfcngaaGreatRSp1
import Derived.Test.YtbgnkljjgfcngaaGreatRSp5
import Derived.Test.YtbgnkljjgfcngaaGreatRSp6
import Derived.Test.YtbgnkljjgfcngaaGreatRSp0
import Derived.Test.YtbgnkljjgfcngaaGreatRSp3
set_option linter.unusedVariables false
set_option linter.unusedSimpArgs false
namespace Go.Proofs.YtbgnkljjgfcngaaGreat
open Go Go.RowKit Sp
set_option linter.unusedVariables false

theorem rin_any (n lo hi : Int) (w : World) : Calls Tryz.prog 72 #[.int .i64 n, .int .i64 lo, .int .i64 hi] w fun e w' => e = .returned (.bool (within n lo hi)) ∧ w = w' := by
  by_cases h1 : lo ≤ n <;> by_cases h2 : n ≤ hi
  all_goals
    go_enter Tryz.func72, Tryz.ntmps72
    go_wp2_with fail
    go_ret
    exact ⟨by simp [within, h1, h2], rfl⟩

theorem goodStep_not {s : Stp} (h : within s.cls 0 6 = false ∨ within s.ton 0 500000 = false ∨ within s.up 0 2000 = false ∨ within s.dn 0 2000 = false ∨ s.up < s.dn) : goodStep s = false := by
  rw [← Bool.not_eq_true]
  intro hg
  simp only [goodStep, within, Bool.and_eq_true, decide_eq_true_eq] at hg
  simp only [within, Bool.and_eq_false_iff, decide_eq_false_iff_not] at h
  omega
theorem goodStep_yes {s : Stp} (h1 : within s.cls 0 6 = true) (h2 : within s.ton 0 500000 = true) (h3 : within s.up 0 2000 = true) (h4 : within s.dn 0 2000 = true) (h5 : ¬ s.up < s.dn) : goodStep s = true := by
  simp only [within, Bool.and_eq_true, decide_eq_true_eq] at *
  simp only [goodStep, within, Bool.and_eq_true, decide_eq_true_eq]
  omega
theorem goodPair_not {b s : Stp} (h : s.cls < b.cls ∨ s.ton < b.ton ∨ s.up ≤ b.up ∨ s.dn < b.dn) : goodPair b s = false := by
  rw [← Bool.not_eq_true]
  intro hg
  simp [goodPair] at hg
  omega

/-- what holds of the first k steps -/
def RChk (p : Pol) (k : Nat) : Prop := stepsOkN p.steps k = true ∧ (0 < k → p.steps.headD default = ⟨0, 0, 0, 0⟩)
set_option maxRecDepth 100000 in
set_option maxHeartbeats 4000000 in
theorem rcheck_any (A : Option Addr) (c : Nat) (p : Pol) (w : World) (hp : PolV w A c p) :
    Calls Tryz.prog 14 #[.agg #[.slice A p.steps.length c, .int .i64 p.hold, .int .i64 p.calm, .int .i64 p.notice, .int .i64 p.grace]] w fun e w' => e = .returned (.int .i64 (checkS p)) ∧ Below w.heap.size w w' := by
  obtain ⟨h1, h2, hr⟩ := hp
  unfold maxLen at h2
  cases hw : within p.steps.length 1 8
  · go_enter Tryz.func14, Tryz.ntmps14
    go_wp2_with (go_at_call 72; refine (rin_any _ _ _ _).mono ?_; rintro e w' ⟨rfl, rfl⟩)
    go_ret
    exact ⟨by simp [checkS, hw], (Below.refl _ _).alloc (Nat.le_refl _) _⟩
  · have hlen : 1 ≤ p.steps.length ∧ p.steps.length ≤ 8 := by simp [within] at hw; omega
    obtain ⟨b, off, rfl, hb, hc⟩ := hr.2 (by omega)
    have hh0 : p.steps.headD default = p.steps.getD 0 default := by cases p.steps <;> simp
    have HH := Lib.hid (And.intro hh0 hlen)
    have hl8 := hlen.2
    obtain ⟨dg, hdg⟩ : ∃ d, d = within p.grace 0 60 := ⟨_, rfl⟩
    have hgr : ∀ wx, Calls Tryz.prog 72 #[.int .i64 p.grace, .int .i64 0, .int .i64 60] wx fun e w' => e = .returned (.bool dg) ∧ wx = w' := fun wx => by rw [hdg]; exact rin_any _ _ _ wx
    have HGR := Lib.hid (And.intro hdg hgr)
    clear hh0 hlen hdg hgr
    cases dg
    case' false =>
      go_enter Tryz.func14, Tryz.ntmps14
      go_wp2_with (first | (go_at_call 72; (with_reducible refine (HGR.out.2 _).mono ?_); rintro e w' ⟨rfl, rfl⟩) | (go_at_call 72; refine (rin_any _ _ _ _).mono ?_; rintro e w' ⟨rfl, rfl⟩))
      all_goals (go_ret; refine ⟨?_, (Below.refl _ _).alloc (Nat.le_refl _) _⟩; rw [check_bad hw (by unfold badGlob; rw [← HGR.out.1]; simp [*])]; rfl)
    go_enter Tryz.func14, Tryz.ntmps14
    go_upto_region 6 with (first | (go_at_call 72; (with_reducible refine (HGR.out.2 _).mono ?_); rintro e w' ⟨rfl, rfl⟩) | (go_at_call 72; refine (rin_any _ _ _ _).mono ?_; rintro e w' ⟨rfl, rfl⟩))
    any_goals (go_ret; refine ⟨?_, (Below.refl _ _).alloc (Nat.le_refl _) _⟩; rw [check_bad hw (by unfold badGlob; simp [*])]; rfl)
    have hbg : (!within p.hold 1 30 || !within p.calm 1 30 || !within p.notice 0 30 || !within p.grace 0 60) = false := by rw [← HGR.out.1]; simp [*]
    have HG := Lib.hid hbg
    clear hbg
    go_wp2_with fail
    have B0 : Below w.heap.size w (w.alloc (.cells #[.slice (some ⟨b, off, none⟩) p.steps.length c, .int .i64 p.hold, .int .i64 p.calm, .int .i64 p.notice, .int .i64 p.grace] 65)) := (Below.refl _ _).alloc (Nat.le_refl _) _
    obtain ⟨W, hW⟩ : ∃ W, W = w.alloc (.cells #[.slice (some ⟨b, off, none⟩) p.steps.length c, .int .i64 p.hold, .int .i64 p.calm, .int .i64 p.notice, .int .i64 p.grace] 65) := ⟨_, rfl⟩
    have fp0 : W.cell? ⟨w.heap.size, 0, none⟩ = some (.slice (some ⟨b, off, none⟩) p.steps.length c) := by rw [hW]; simp [World.cell?_alloc_new]
    rw [← hW] at B0 ⊢
    obtain ⟨bx, hbx⟩ : ∃ bx, bx = w.heap.size := ⟨_, rfl⟩
    rw [← hbx] at fp0 ⊢
    have HB := Lib.hid (And.intro B0 (And.intro hbx hr))
    clear hW B0 hbx
    go_loopg [4] (p.steps.length) (fun g i wr => ∃ k : Nat, g + k = p.steps.length ∧ i = .int .i64 k ∧ RChk p k ∧ Keep [] W wr)
    case atStart => exact ⟨0, rfl, rfl, ⟨rfl, fun h => absurd h (by omega)⟩, Keep.refl _ _⟩
    case round =>
      obtain ⟨k, hk, rfl, hok, hK⟩ := hrel
      by_cases hlt : k < p.steps.length
      · have b0 := HB.out.1
        have bB : Below w.heap.size w wr := b0.trans (hK.below b0.size (by simp))
        have cw : ∀ {o : Nat} {u : Value}, w.cell? ⟨b, o, none⟩ = some u → wr.cell? ⟨b, o, none⟩ = some u := fun h => (bB.cell (p := ⟨b, _, none⟩) hb).trans h
        obtain ⟨a0, a1, a2, a3⟩ := stcs_get hlt
        have d0 := cw (hc _ _ a0)
        have d1 : wr.cell? ⟨b, off + k * 4 + 1, none⟩ = some (.int .i64 p.steps[k].ton) := cw (hc _ _ a1)
        have d2 : wr.cell? ⟨b, off + k * 4 + 2, none⟩ = some (.int .i64 p.steps[k].up) := cw (hc _ _ a2)
        have d3 : wr.cell? ⟨b, off + k * 4 + 3, none⟩ = some (.int .i64 p.steps[k].dn) := cw (hc _ _ a3)
        have fpr := hK.cell fp0 (by simp)
        have hsz : bx < wr.heap.size := World.block_lt_of_cell? wr _ fpr
        have hbl : b < wr.heap.size := Nat.lt_of_lt_of_le hb bB.size
        obtain ⟨st, hst⟩ : ∃ st, st = p.steps.getD k default := ⟨_, rfl⟩
        have hst' : p.steps[k] = st := by rw [hst, List.getD_eq_getElem?_getD, List.getElem?_eq_getElem hlt]; rfl
        rw [hst'] at d0 d1 d2 d3
        have HI := Lib.hid (And.intro hok (And.intro hK (And.intro bB hst)))
        have HC := Lib.hid hc
        clear hst' a0 a1 a2 a3 fp0 b0 bB hok hK hst hc
        by_cases hk0 : k = 0
        · subst hk0
          simp only [Nat.zero_mul, Nat.add_zero] at d0 d1 d2 d3
          go_wp2_with (go_at_call 72; refine (rin_any _ _ _ _).mono ?_; rintro e w' ⟨rfl, rfl⟩)
          any_goals (go_ret; refine ⟨?_, HI.out.2.2.1.alloc HI.out.2.2.1.size _⟩; first | (rw [check_not hw hlt (goodAt_bad HI.out.2.2.2 (goodStep_not (by first | exact .inl (Bool.eq_false_iff.2 (by assumption)) | exact .inr (.inl (Bool.eq_false_iff.2 (by assumption))) | exact .inr (.inr (.inl (Bool.eq_false_iff.2 (by assumption)))) | exact .inr (.inr (.inr (.inl (Bool.eq_false_iff.2 (by assumption))))) | exact .inr (.inr (.inr (.inr (by omega)))) | exact .inr (.inr (.inr (.inr (of_decide_eq_true (by assumption))))))))]; rfl) | (rw [check_bad hw (by unfold badGlob; rw [HH.out.1, ← HI.out.2.2.2]; have hne : st ≠ ⟨0, 0, 0, 0⟩ := (fun e => by have e1 := congrArg Stp.cls e; have e2 := congrArg Stp.ton e; have e3 := congrArg Stp.up e; have e4 := congrArg Stp.dn e; simp only at e1 e2 e3 e4; first | omega | (have h9 : (st.cls != 0) = true := (by assumption); rw [e1] at h9; exact absurd h9 (by decide)) | (have h9 : (st.ton != 0) = true := (by assumption); rw [e2] at h9; exact absurd h9 (by decide)) | (have h9 : (st.up != 0) = true := (by assumption); rw [e3] at h9; exact absurd h9 (by decide)) | (have h9 : (st.dn != 0) = true := (by assumption); rw [e4] at h9; exact absurd h9 (by decide))); rw [show decide (st = ⟨0, 0, 0, 0⟩) = false from decide_eq_false hne]; simp)]; rfl))
          go_roundg (gk - 1)
          case measure => omega
          case rel =>
            have hz : st.dn = 0 := by
              have h9 : (st.dn != 0) = false := by assumption
              simpa using h9
            have hst0 : st = ⟨0, 0, 0, 0⟩ := by obtain ⟨x1, x2, x3, x4⟩ := st; simp only at *; congr
            exact ⟨0 + 1, by omega, by go_num, ⟨stepsOkN_succ HI.out.1.1 (goodAt_zero HI.out.2.2.2 (goodStep_yes (by assumption) (by assumption) (by assumption) (by assumption) (by omega))), fun _ => by rw [HH.out.1, ← HI.out.2.2.2, hst0]⟩, HI.out.2.1.alloc _⟩
        · obtain ⟨a0, a1, a2, a3⟩ := stcs_get (l := p.steps) (k := k - 1) (by omega)
          have e0 := cw (HC.out _ _ a0)
          have e1 : wr.cell? ⟨b, off + (k - 1) * 4 + 1, none⟩ = some (.int .i64 (p.steps[k - 1]'(by omega)).ton) := cw (HC.out _ _ a1)
          have e2 : wr.cell? ⟨b, off + (k - 1) * 4 + 2, none⟩ = some (.int .i64 (p.steps[k - 1]'(by omega)).up) := cw (HC.out _ _ a2)
          have e3 : wr.cell? ⟨b, off + (k - 1) * 4 + 3, none⟩ = some (.int .i64 (p.steps[k - 1]'(by omega)).dn) := cw (HC.out _ _ a3)
          obtain ⟨pv, hpv⟩ : ∃ pv, pv = p.steps.getD (k - 1) default := ⟨_, rfl⟩
          have hpv' : p.steps[k - 1]'(by omega) = pv := by rw [hpv, List.getD_eq_getElem?_getD, List.getElem?_eq_getElem (by omega)]; rfl
          rw [hpv'] at e0 e1 e2 e3
          have HV := Lib.hid hpv
          have hk1 : (1 : Int) ≤ (k : Int) := by omega
          have hkz : ((k : Int) == 0) = false := by simp; omega
          have hkl : (k : Int) - 1 < (p.steps.length : Int) := by omega
          clear a0 a1 a2 a3 hpv hpv'
          go_wp2_with (go_at_call 72; refine (rin_any _ _ _ _).mono ?_; rintro e w' ⟨rfl, rfl⟩)
          any_goals (go_ret; refine ⟨?_, by first | exact HI.out.2.2.1.alloc HI.out.2.2.1.size _ | exact (HI.out.2.2.1.alloc HI.out.2.2.1.size _).alloc (by have := HI.out.2.2.1.size; simp; omega) _⟩; first | (rw [check_not hw hlt (goodAt_bad HI.out.2.2.2 (goodStep_not (by first | exact .inl (Bool.eq_false_iff.2 (by assumption)) | exact .inr (.inl (Bool.eq_false_iff.2 (by assumption))) | exact .inr (.inr (.inl (Bool.eq_false_iff.2 (by assumption)))) | exact .inr (.inr (.inr (.inl (Bool.eq_false_iff.2 (by assumption))))) | exact .inr (.inr (.inr (.inr (by omega)))) | exact .inr (.inr (.inr (.inr (of_decide_eq_true (by assumption))))))))]; rfl) | (rw [check_not hw hlt (goodAt_badp hk0 HI.out.2.2.2 HV.out (goodPair_not (by first | omega | (have h9 : decide (st.dn < pv.dn) = true := (by assumption); simp only [decide_eq_true_eq] at h9; omega))))]; rfl))
          go_roundg (gk - 1)
          case measure => omega
          case rel => exact ⟨k + 1, by omega, by go_num, ⟨stepsOkN_succ HI.out.1.1 (goodAt_succ HI.out.2.2.2 HV.out (goodStep_yes (by assumption) (by assumption) (by assumption) (by assumption) (by omega)) (goodPair_mk (by omega) (by omega) (by omega) (by first | omega | (have h9 : decide (st.dn < pv.dn) = false := (by assumption); simp only [decide_eq_false_iff_not] at h9; omega)))), fun _ => HI.out.1.2 (by omega)⟩, (HI.out.2.1.alloc _).alloc _⟩
      · obtain rfl : k = p.steps.length := by omega
        have HOK := Lib.hid hok
        clear hok
        go_wp2_with fail
        go_ret
        have b0 := HB.out.1
        have hg : badGlob p = false := by
          have h5 := HG.out
          simp only [Bool.or_eq_false_iff] at h5
          unfold badGlob
          rw [HOK.out.2 (by have := HH.out.2; omega)]
          simp only [h5]; rfl
        exact ⟨by rw [check_yes hw hg HOK.out.1]; rfl, b0.trans (hK.below b0.size (by simp))⟩
end Go.Proofs.YtbgnkljjgfcngaaGreat
/- append of a whole slice onto a slice of the call's own (elements of several cells), in place or not. No program is named here. -/
namespace Go.Proofs.YtbgnkljjgfcngaaGreat
open Go Go.RowKit

section
variable {w w' : World} {e : TypeId} {size : Nat} {A B : Option Addr} {n c m d : Nat} {xs ys : List Value} {fp : List Nat} {P : Program}
theorem Rd.add_n (h : Rd w size B m ys) {ad : Addr} (he : B = some ad) : ∀ j u, ys[j]? = some u → w.cell? (ad.add j) = some u := by
  intro j u hu
  have hl : 0 < m := by
    have h1 := (List.getElem?_eq_some_iff.1 hu).1
    have h2 := h.1
    rcases Nat.eq_zero_or_pos m with h3 | h3
    · subst h3; simp at h2; subst h2; simp at h1
    · exact h3
  obtain ⟨b, off, e1, _, hc⟩ := h.2 hl
  rw [he] at e1
  injection e1 with e1
  subst e1
  have := hc j u hu
  by_cases hj : j = 0
  · subst hj; simpa [Addr.add] using this
  · simpa [Addr.add, hj] using this

theorem run_append_M (t ty : TypeId) (i : TypeInfo) (z : Value) (bytes : Nat) (ht : P.underlying t = some (.slice e)) (hi : P.info? e = some i) (hz : i.zero = some z)
    (hsize : i.size = size) (hby : i.bytes = bytes) (hzs : z.cells.size = size) (hown : OwnS w e size A n c xs fp) (hr : Rd w size B m ys) (h1 : ∀ u ∈ ys, u.oneCell' = true)
    (hn : n + m ≤ 1000000000000) (hbytes : bytes ≤ 100) :
    ∃ A' c' w' fp', (Builtin.append_ #[t, t] ty #[.slice A n c, .slice B m d]).run P w = .ok (.slice A' (n + m) c') w' ∧
      OwnS w' e size A' (n + m) c' (xs ++ ys) fp' ∧ (∀ g ∈ fp', g ∈ fp ∨ w.heap.size = g) ∧ Keep fp w w' := by
  subst hby hsize
  have hym : ys.length = m * i.size := hr.1
  have hxl := hown.1
  rcases Nat.eq_zero_or_pos m with hm | hm
  · subst hm
    obtain rfl : ys = [] := List.eq_nil_of_length_eq_zero (by simpa using hym)
    refine ⟨A, c, w, fp, ?_, by simpa using hown, fun g hg => .inl hg, Keep.refl _ _⟩
    have hge := hown.ge
    have hfc : (Builtin.firstCells i.size 0 (.slice B 0 d)).run P w = .ok #[] w := by
      cases B with
      | none => simp [Builtin.firstCells]
      | some b => simp [Builtin.firstCells, loadCells, loadCellsFrom]
    cases A with
    | none => simp [Builtin.append_, run_underlying ht, sizeOf, typeInfo, hi, Builtin.lenOf, hge, hfc]
    | some a => simp [Builtin.append_, run_underlying ht, sizeOf, typeInfo, hi, Builtin.lenOf, hge, hfc, storeCells]
  · obtain ⟨b, off, rfl, hb, hc⟩ := hr.2 hm
    have hb1 : (n + m) * i.bytes ≤ 140737488355328 := Nat.le_trans (Nat.mul_le_mul hn hbytes) (by decide)
    have hnews := hr.add_n rfl
    have hmx : n + m ≤ maxLen := by simp only [maxLen]; omega
    have grown : ∀ (old : Nat) (olds : List Value), olds = xs →
        OwnS (w.drew.alloc (.cells (olds.toArray ++ ys.toArray ++ Builtin.zeroCells z.cells (grownCap w (n + m) old e - (n + m))) e)) e i.size (some ⟨w.heap.size, 0, none⟩) (n + m) (grownCap w (n + m) old e) (xs ++ ys) [w.heap.size] := by
      rintro old olds rfl
      have hge := grownCap_ge w (n + m) old e
      have hcm : grownCap w (n + m) old e ≤ maxLen := grownCap_le_maxLen w (n + m) old e hmx
      simp only [maxLen] at hcm
      refine ⟨by simp [hxl, hym, Nat.add_mul], .inr ⟨_, _, rfl, rfl, heap_alloc_new w.drew _, hge, hcm, ?_, ?_⟩⟩
      · simp only [Array.size_append, List.size_toArray, size_zeroCells, hzs, hxl, hym]
        generalize grownCap w (n + m) old e = G at hge ⊢
        obtain ⟨d, rfl⟩ : ∃ d, G = n + m + d := ⟨G - (n + m), by omega⟩
        rw [show n + m + d - (n + m) = d from by omega]
        simp only [Nat.add_mul]
      · intro j v hv
        have hlt : j < (olds ++ ys).length := (List.getElem?_eq_some_iff.1 hv).1
        rw [Array.getElem?_append_left (by simpa using hlt)]
        simpa using hv
    have hkeep : ∀ o : Obj, Keep fp w (w.drew.alloc o) := fun o => ((Keep.refl fp w).drew).alloc o
    rcases hown.2 with ⟨rfl, rfl, rfl, rfl⟩ | ⟨g, cur, rfl, rfl, hh, hnc, hcm, hcs, hat⟩
    · have hx : xs = [] := List.eq_nil_of_length_eq_zero (by omega)
      subst hx
      have hrn := run_append_nil (P := P) w t ty e i z ht hi hz ⟨b, off, none⟩ m d ys hym hnews hm (by omega) (by simp at hb1; omega)
      have hg := grown 0 [] rfl
      simp only [Nat.zero_add, List.nil_append, Array.empty_append] at hg ⊢
      exact ⟨_, _, _, _, hrn, hg, fun y hy => .inr (List.mem_singleton.1 hy).symm, hkeep _⟩
    · by_cases hroom : n + m ≤ c
      · have hcn : (n + m) * i.size ≤ c * i.size := Nat.mul_le_mul_right _ hroom
        have hn1 : (n + m) * i.size = n * i.size + m * i.size := Nat.add_mul _ _ _
        have hrn := run_append_room_cells (P := P) w t ty e i ht hi g 0 n c ⟨b, off, none⟩ m d ys hym hnews h1 hroom (by
          intro j hj
          have hlt' : 0 + n * i.size + j < cur.size := by omega
          rw [cell_of_heap hh, Array.getElem?_eq_getElem hlt']
          rfl) (fun j hj => frozen_of_heap hh _)
        obtain ⟨cur', g1, g2, g3, g4⟩ := setCells_heap g ys (0 + n * i.size) w cur hh
        refine ⟨some ⟨g, 0, none⟩, c, _, [g], hrn, ⟨by simp [hxl, hym, hn1], .inr ⟨g, cur', rfl, rfl, g1, hroom, hcm, by rw [g2]; exact hcs, ?_⟩⟩, fun y hy => .inl hy, setCells_keep g ys _ w w (Keep.refl _ _) (.inl (by simp))⟩
        intro j v hv
        rw [List.getElem?_append] at hv
        split at hv
        · rename_i hj
          rw [g4 j (by omega)]
          exact hat j v hv
        · rename_i hj
          have h6 := (List.getElem?_eq_some_iff.1 hv).1
          have := g3 (j - xs.length) v hv (by omega)
          rwa [show 0 + n * i.size + (j - xs.length) = j from by omega] at this
      · have holds : ∀ j v, xs[j]? = some v → w.cell? ((⟨g, 0, none⟩ : Addr).add j) = some v := by
          intro j v hv
          rw [show (⟨g, 0, none⟩ : Addr).add j = ⟨g, j, none⟩ from by simp [Addr.add]; omega]
          exact (cell_of_heap hh _).trans (hat j v hv)
        have hrn := run_append_grow (P := P) w t ty e i z ht hi hz ⟨g, 0, none⟩ n c xs hxl holds ⟨b, off, none⟩ m d ys hym hnews (by omega) (by omega) (growslice_fits (by omega) hb1)
        exact ⟨_, _, _, _, hrn, grown c xs rfl, fun y hy => .inr (List.mem_singleton.1 hy).symm, hkeep _⟩

theorem wp_append_M {o : Oper} {a : Act} {K : Act → World → Prop} {Q : Exit → Act → World → Prop} (s x : Operand) (t : TypeId)
    (ho : o.op = .call { callee := .builtin .append, args := #[s, x], argTypes := #[t, t] })
    (i : TypeInfo) (z : Value) (bytes : Nat) (ht : P.underlying t = some (.slice e)) (hi : P.info? e = some i) (hz : i.zero = some z)
    (hsize : i.size = size) (hby : i.bytes = bytes) (hzs : z.cells.size = size) (hs : a.eval s = .slice A n c) (hx : a.eval x = .slice B m d)
    (hown : OwnS w e size A n c xs fp) (hr : Rd w size B m ys) (h1 : ∀ u ∈ ys, u.oneCell' = true)
    (hn : n + m ≤ 1000000000000) (hbytes : bytes ≤ 100)
    (h : ∀ A' c' w' fp', OwnS w' e size A' (n + m) c' (xs ++ ys) fp' → (∀ g ∈ fp', g ∈ fp ∨ w.heap.size = g) → Keep fp w w' → K (a.put o.dst (.slice A' (n + m) c')) w') : o.wp P a w K Q := by
  obtain ⟨A', c', w', fp', hrn, h2, h3, h4⟩ := run_append_M (P := P) (d := d) t o.type i z bytes ht hi hz hsize hby hzs hown hr h1 hn hbytes
  unfold Oper.wp execOp
  simp only [ho, resolve, invoke, builtin, Sem.run_bind, Sem.run_pure, Result.andThen_ok, List.map_toArray, List.map_cons, List.map_nil, hs, hx, hrn]
  exact h A' c' w' fp' h2 h3 h4

theorem wpList_append_M {ops : Array Oper} {rest : List Oper} {o : Oper} {a : Act} {Q : Exit → Act → World → Prop} (hgd : o.guard = none) (s x : Operand) (t : TypeId)
    (ho : o.op = .call { callee := .builtin .append, args := #[s, x], argTypes := #[t, t] })
    (i : TypeInfo) (z : Value) (bytes : Nat) (ht : P.underlying t = some (.slice e)) (hi : P.info? e = some i) (hz : i.zero = some z)
    (hsize : i.size = size) (hby : i.bytes = bytes) (hzs : z.cells.size = size) (hs : a.eval s = .slice A n c) (hx : a.eval x = .slice B m d)
    (hown : OwnS w e size A n c xs fp) (hr : Rd w size B m ys) (h1 : ∀ u ∈ ys, u.oneCell' = true)
    (hn : n + m ≤ 1000000000000) (hbytes : bytes ≤ 100)
    (h : ∀ A' c' w' fp', OwnS w' e size A' (n + m) c' (xs ++ ys) fp' → (∀ g ∈ fp', g ∈ fp ∨ w.heap.size = g) → Keep fp w w' → wpList P ops Q rest (a.put o.dst (.slice A' (n + m) c')) w') : wpList P ops Q (o :: rest) a w :=
  wpList_plain hgd fun _ hK => wp_append_M s x t ho i z bytes ht hi hz hsize hby hzs hs hx hown hr h1 hn hbytes fun A' c' w' fp' h2 h3 h4 => hK _ _ (h A' c' w' fp' h2 h3 h4)
end
/-- what slices.Clone answers -/
def CloneS (w : World) (e : TypeId) (size n : Nat) (xs : List Value) (r : Ending) (w' : World) : Prop :=
  ∃ A c q, r = .returned (.slice A n c) ∧ OwnS w' e size A n c xs q ∧ (∀ g ∈ q, w.heap.size ≤ g) ∧ Below w.heap.size w w'
end Go.Proofs.YtbgnkljjgfcngaaGreat
/- slices.Clone at slices of structs (printed by wip/tools/clone.py) -/
namespace Go.Proofs.YtbgnkljjgfcngaaGreat
open Go Go.RowKit Sp
set_option linter.unusedVariables false

theorem infoStp : (Tryz.prog.info? 36).map (fun i => (i.zero, i.size, i.bytes)) = some (some (.agg #[.int .i64 0, .int .i64 0, .int .i64 0, .int .i64 0]), 4, 32) := by kernel_rfl
set_option maxRecDepth 100000 in
set_option maxHeartbeats 1000000 in
theorem cloneStp_any (A : Option Addr) (n c : Nat) (xs : List Value) (w : World) (hr : Rd w 4 A n xs) (h1 : ∀ u ∈ xs, u.oneCell' = true) (hc : A = none → n = 0 ∧ c = 0) (hl : n ≤ 100000000) :
    Calls Tryz.prog 18 #[.slice A n c] w (CloneS w 36 4 n xs) := by
  obtain ⟨i0, hi, hz0, hz1, hz2⟩ := info_parts infoStp
  have hnil := fun (w : World) (a : Option Addr) (n c : Nat) => Lib.run_eql_slice_nil (P := Tryz.prog) w 23 36 a n c 0 0 Tryz.underlying23
  cases A with
  | none =>
    obtain ⟨rfl, rfl⟩ := hc rfl
    obtain rfl : xs = [] := List.eq_nil_of_length_eq_zero (by have := hr.1; omega)
    go_enter Tryz.func18, Tryz.ntmps18
    go_wp2_with fail
    go_ret
    exact ⟨none, 0, [], rfl, OwnS.nil _ _ _, by simp, Below.refl _ _⟩
  | some ad =>
    have HR := Lib.hid (And.intro hr h1)
    clear hr hc h1
    go_enter Tryz.func18, Tryz.ntmps18
    go_wp2_with (at_builtin
                 refine wpList_append_M rfl (.tmp 5) (.tmp 6) 23 rfl i0 _ 32 Tryz.underlying23 hi hz0 hz1 hz2 rfl (A := some ⟨w.heap.size, 0, none⟩) (n := 0) (c := 0) (B := some ad) (m := n) (d := c) (xs := []) (fp := [w.heap.size]) (ys := xs) (by simp [Act.eval]) (by simp [Act.eval]) ⟨by simp, .inr ⟨_, _, rfl, rfl, heap_alloc_new w _, by omega, by omega, rfl, by simp⟩⟩ (HR.out.1.below ((Below.refl _ _).alloc (Nat.le_refl _) _)) HR.out.2 (by omega) (by omega) ?_
                 intro A' c' w' fp' h1 h2 h3
                 have HQ := Lib.hid (And.intro h1 (And.intro h2 h3))
                 clear h1 h2 h3)
    go_ret
    obtain ⟨h1, h2, h3⟩ := HQ.out
    refine ⟨A', c', fp', by simp, by simpa using h1, fun g hg => ?_, ((Below.refl w.heap.size w).alloc (Nat.le_refl _) _).trans (h3.below (by simp) (by simp))⟩
    rcases h2 g hg with h | h
    · simp at h; omega
    · simp at h; omega

theorem infoOrd : (Tryz.prog.info? 40).map (fun i => (i.zero, i.size, i.bytes)) = some (some (.agg #[.int .i64 0, .int .i64 0, .int .i64 0]), 3, 24) := by kernel_rfl
set_option maxRecDepth 100000 in
set_option maxHeartbeats 1000000 in
theorem cloneOrd_any (A : Option Addr) (n c : Nat) (xs : List Value) (w : World) (hr : Rd w 3 A n xs) (h1 : ∀ u ∈ xs, u.oneCell' = true) (hc : A = none → n = 0 ∧ c = 0) (hl : n ≤ 100000000) :
    Calls Tryz.prog 20 #[.slice A n c] w (CloneS w 40 3 n xs) := by
  obtain ⟨i0, hi, hz0, hz1, hz2⟩ := info_parts infoOrd
  have hnil := fun (w : World) (a : Option Addr) (n c : Nat) => Lib.run_eql_slice_nil (P := Tryz.prog) w 41 40 a n c 0 0 Tryz.underlying41
  cases A with
  | none =>
    obtain ⟨rfl, rfl⟩ := hc rfl
    obtain rfl : xs = [] := List.eq_nil_of_length_eq_zero (by have := hr.1; omega)
    go_enter Tryz.func20, Tryz.ntmps20
    go_wp2_with fail
    go_ret
    exact ⟨none, 0, [], rfl, OwnS.nil _ _ _, by simp, Below.refl _ _⟩
  | some ad =>
    have HR := Lib.hid (And.intro hr h1)
    clear hr hc h1
    go_enter Tryz.func20, Tryz.ntmps20
    go_wp2_with (at_builtin
                 refine wpList_append_M rfl (.tmp 5) (.tmp 6) 41 rfl i0 _ 24 Tryz.underlying41 hi hz0 hz1 hz2 rfl (A := some ⟨w.heap.size, 0, none⟩) (n := 0) (c := 0) (B := some ad) (m := n) (d := c) (xs := []) (fp := [w.heap.size]) (ys := xs) (by simp [Act.eval]) (by simp [Act.eval]) ⟨by simp, .inr ⟨_, _, rfl, rfl, heap_alloc_new w _, by omega, by omega, rfl, by simp⟩⟩ (HR.out.1.below ((Below.refl _ _).alloc (Nat.le_refl _) _)) HR.out.2 (by omega) (by omega) ?_
                 intro A' c' w' fp' h1 h2 h3
                 have HQ := Lib.hid (And.intro h1 (And.intro h2 h3))
                 clear h1 h2 h3)
    go_ret
    obtain ⟨h1, h2, h3⟩ := HQ.out
    refine ⟨A', c', fp', by simp, by simpa using h1, fun g hg => ?_, ((Below.refl w.heap.size w).alloc (Nat.le_refl _) _).trans (h3.below (by simp) (by simp))⟩
    rcases h2 g hg with h | h
    · simp at h; omega
    · simp at h; omega

theorem infoPsg : (Tryz.prog.info? 31).map (fun i => (i.zero, i.size, i.bytes)) = some (some (.agg #[.int .i64 0, .int .i64 0, .bool false, .int .i64 0, .int .i64 0]), 5, 40) := by kernel_rfl
set_option maxRecDepth 100000 in
set_option maxHeartbeats 1000000 in
theorem clonePsg_any (A : Option Addr) (n c : Nat) (xs : List Value) (w : World) (hr : Rd w 5 A n xs) (h1 : ∀ u ∈ xs, u.oneCell' = true) (hc : A = none → n = 0 ∧ c = 0) (hl : n ≤ 100000000) :
    Calls Tryz.prog 38 #[.slice A n c] w (CloneS w 31 5 n xs) := by
  obtain ⟨i0, hi, hz0, hz1, hz2⟩ := info_parts infoPsg
  have hnil := fun (w : World) (a : Option Addr) (n c : Nat) => Lib.run_eql_slice_nil (P := Tryz.prog) w 43 31 a n c 0 0 Tryz.underlying43
  cases A with
  | none =>
    obtain ⟨rfl, rfl⟩ := hc rfl
    obtain rfl : xs = [] := List.eq_nil_of_length_eq_zero (by have := hr.1; omega)
    go_enter Tryz.func38, Tryz.ntmps38
    go_wp2_with fail
    go_ret
    exact ⟨none, 0, [], rfl, OwnS.nil _ _ _, by simp, Below.refl _ _⟩
  | some ad =>
    have HR := Lib.hid (And.intro hr h1)
    clear hr hc h1
    go_enter Tryz.func38, Tryz.ntmps38
    go_wp2_with (at_builtin
                 refine wpList_append_M rfl (.tmp 5) (.tmp 6) 43 rfl i0 _ 40 Tryz.underlying43 hi hz0 hz1 hz2 rfl (A := some ⟨w.heap.size, 0, none⟩) (n := 0) (c := 0) (B := some ad) (m := n) (d := c) (xs := []) (fp := [w.heap.size]) (ys := xs) (by simp [Act.eval]) (by simp [Act.eval]) ⟨by simp, .inr ⟨_, _, rfl, rfl, heap_alloc_new w _, by omega, by omega, rfl, by simp⟩⟩ (HR.out.1.below ((Below.refl _ _).alloc (Nat.le_refl _) _)) HR.out.2 (by omega) (by omega) ?_
                 intro A' c' w' fp' h1 h2 h3
                 have HQ := Lib.hid (And.intro h1 (And.intro h2 h3))
                 clear h1 h2 h3)
    go_ret
    obtain ⟨h1, h2, h3⟩ := HQ.out
    refine ⟨A', c', fp', by simp, by simpa using h1, fun g hg => ?_, ((Below.refl w.heap.size w).alloc (Nat.le_refl _) _).trans (h3.below (by simp) (by simp))⟩
    rcases h2 g hg with h | h
    · simp at h; omega
    · simp at h; omega

theorem infoCell : (Tryz.prog.info? 54).map (fun i => (i.zero, i.size, i.bytes)) = some (some (.agg #[.int .i64 0, .int .i64 0, .int .i64 0, .int .i64 0, .int .i64 0, .int .i64 0, .int .i64 0, .int .i64 0]), 8, 64) := by kernel_rfl
set_option maxRecDepth 100000 in
set_option maxHeartbeats 1000000 in
theorem cloneCell_any (A : Option Addr) (n c : Nat) (xs : List Value) (w : World) (hr : Rd w 8 A n xs) (h1 : ∀ u ∈ xs, u.oneCell' = true) (hc : A = none → n = 0 ∧ c = 0) (hl : n ≤ 100000000) :
    Calls Tryz.prog 60 #[.slice A n c] w (CloneS w 54 8 n xs) := by
  obtain ⟨i0, hi, hz0, hz1, hz2⟩ := info_parts infoCell
  have hnil := fun (w : World) (a : Option Addr) (n c : Nat) => Lib.run_eql_slice_nil (P := Tryz.prog) w 47 54 a n c 0 0 Tryz.underlying47
  cases A with
  | none =>
    obtain ⟨rfl, rfl⟩ := hc rfl
    obtain rfl : xs = [] := List.eq_nil_of_length_eq_zero (by have := hr.1; omega)
    go_enter Tryz.func60, Tryz.ntmps60
    go_wp2_with fail
    go_ret
    exact ⟨none, 0, [], rfl, OwnS.nil _ _ _, by simp, Below.refl _ _⟩
  | some ad =>
    have HR := Lib.hid (And.intro hr h1)
    clear hr hc h1
    go_enter Tryz.func60, Tryz.ntmps60
    go_wp2_with (at_builtin
                 refine wpList_append_M rfl (.tmp 5) (.tmp 6) 47 rfl i0 _ 64 Tryz.underlying47 hi hz0 hz1 hz2 rfl (A := some ⟨w.heap.size, 0, none⟩) (n := 0) (c := 0) (B := some ad) (m := n) (d := c) (xs := []) (fp := [w.heap.size]) (ys := xs) (by simp [Act.eval]) (by simp [Act.eval]) ⟨by simp, .inr ⟨_, _, rfl, rfl, heap_alloc_new w _, by omega, by omega, rfl, by simp⟩⟩ (HR.out.1.below ((Below.refl _ _).alloc (Nat.le_refl _) _)) HR.out.2 (by omega) (by omega) ?_
                 intro A' c' w' fp' h1 h2 h3
                 have HQ := Lib.hid (And.intro h1 (And.intro h2 h3))
                 clear h1 h2 h3)
    go_ret
    obtain ⟨h1, h2, h3⟩ := HQ.out
    refine ⟨A', c', fp', by simp, by simpa using h1, fun g hg => ?_, ((Below.refl w.heap.size w).alloc (Nat.le_refl _) _).trans (h3.below (by simp) (by simp))⟩
    rcases h2 g hg with h | h
    · simp at h; omega
    · simp at h; omega
end Go.Proofs.YtbgnkljjgfcngaaGreat
