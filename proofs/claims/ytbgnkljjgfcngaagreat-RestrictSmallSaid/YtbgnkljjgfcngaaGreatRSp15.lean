/- polynyaref08: Kept -/
import Derived.Test.YtbgnkljjgfcngaaGreatRSp14
import Derived.Test.YtbgnkljjgfcngaaGreatRSp5
import Derived.Test.YtbgnkljjgfcngaaGreatRSp4
set_option linter.unusedVariables false
set_option linter.unusedSimpArgs false
namespace Go.Proofs.YtbgnkljjgfcngaaGreat
open Go Go.RowKit Sp
set_option linter.unusedVariables false

set_option maxRecDepth 100000 in
set_option maxHeartbeats 2000000 in
theorem rKept_any (As : Option Addr) (cs : Nat) (p : Pol) (A : Option Addr) (c : Nat) (days : List Int) (day : Nat) (w : World) (hp : PolV w As cs p) (hr : Rd w 1 A days.length (ints days)) (hc : checkS p = 0) (hd : day < days.length) (hl : days.length ≤ 400) :
    Calls Tryz.prog 111 #[.agg #[.slice As p.steps.length cs, .int .i64 p.hold, .int .i64 p.calm, .int .i64 p.notice, .int .i64 p.grace], .slice A days.length c, .int .i64 day] w fun e w' => e = .returned (.int .i64 ((keptS p days).getD day 0)) ∧ Below w.heap.size w w' := by
  have rd0 := RD.new (A := A) (days := days) hp hr
  obtain ⟨ck1, ck2, _, _, ck3, ck4, _⟩ := check_ok hc
  have hne : 1 ≤ p.steps.length := List.length_pos_iff.2 ck1
  have HC := Lib.hid hc
  obtain ⟨W, hW⟩ : ∃ W, W = w.alloc (.cells #[.slice As p.steps.length cs, .int .i64 p.hold, .int .i64 p.calm, .int .i64 p.notice, .int .i64 p.grace] 65) := ⟨_, rfl⟩
  obtain ⟨ob, hob⟩ : ∃ ob, ob = w.heap.size := ⟨_, rfl⟩
  rw [← hW, ← hob] at rd0
  have HR := Lib.hid rd0
  clear hp hr hc ck1 rd0
  go_enter Tryz.func111, Tryz.ntmps111
  go_wp2_with fail
  rw [← hW, ← hob]
  clear hW hob
  go_loopw [7, 8] (fun o i wr => ∃ k : Nat, k + 1 ≤ p.steps.length ∧ i = .int .i64 ((k : Int) + 1) ∧ o = .int .i64 (rKN p days day k) ∧ Below W.heap.size W wr) (fun _ i _ => p.steps.length - (intOf i).toNat)
  case atStart => exact ⟨0, hne, rfl, rfl, Below.refl _ _⟩
  case round =>
    obtain ⟨k, hk, rfl, rfl, hb⟩ := hrel
    obtain ⟨o, ho⟩ : ∃ o, o = rKN p days day k := ⟨_, rfl⟩
    rw [← ho]
    have rdw := HR.out.below hb
    obtain ⟨q0, q1, q2, q3, q4, zp⟩ := rdw.cells
    have HB := Lib.hid (And.intro hb (And.intro ho rdw))
    clear hb ho rdw
    by_cases hlt : k + 1 < p.steps.length
    · obtain ⟨lo, hlo⟩ : ∃ lo, lo = loD day p.calm := ⟨_, rfl⟩
      have hl2 := loD_le (day := day) ck3
      rw [← hlo] at hl2
      have HLO := Lib.hid hlo
      clear hlo
      obtain ⟨u, hu⟩ : ∃ u, u = (stp p (k + 1)).dn := ⟨_, rfl⟩
      have HU := Lib.hid hu
      clear hu
      have step : ∀ d : Nat, lo ≤ d → anyN days u lo (d + 1 - lo) = (decide (u ≤ days.getD d 0) || anyN days u lo (d - lo)) := fun d h => by
        rw [show d + 1 - lo = (d - lo) + 1 from by omega, anyN, show lo + (d - lo) = d from by omega]
      have HST := Lib.hid step
      clear step
      by_cases hw : (0 : Int) < (day : Int) - p.calm + 1
      all_goals
        have hle : lo ≤ day := hl2.1
        go_wp2_with fail
        obtain ⟨wo, rfl⟩ : ∃ wo : World, wo = wr := ⟨_, rfl⟩
        go_loopw [7, 9] (fun n i wr => ∃ d : Nat, lo ≤ d ∧ d ≤ day + 1 ∧ i = .int .i64 d ∧ n = .int .i64 (if anyN days u lo (d - lo) = true then (k : Int) + 1 else o) ∧ Below W.heap.size W wr) (fun _ i _ => (day : Int).toNat + 1 - (intOf i).toNat)
        case atStart => exact ⟨lo, Nat.le_refl _, by omega, by first | (congr 1; have := HLO.out; unfold loD at this; omega) | (congr 1; omega), by rw [Nat.sub_self]; rfl, HB.out.1⟩
        case round =>
          obtain ⟨d, hd1, hd2, rfl, rfl, hb⟩ := hrel
          obtain ⟨n, hn⟩ : ∃ n, n = (if anyN days u lo (d - lo) = true then (k : Int) + 1 else o) := ⟨_, rfl⟩
          rw [← hn]
          have rdw := HR.out.below hb
          obtain ⟨q0, q1, q2, q3, q4, zp⟩ := rdw.cells
          have HB2 := Lib.hid (And.intro hb (And.intro hn rdw))
          clear hb hn rdw
          by_cases hdd : d ≤ day
          · obtain ⟨bd, od, rfl, cd⟩ := HB2.out.2.2.day (k := d) (by omega)
            obtain ⟨bs, os, rfl, _, _, _, _, c2⟩ := HB2.out.2.2.step (k := k + 1) hlt
            rw [← HU.out] at c2
            obtain ⟨x, hx⟩ : ∃ x, x = days.getD d 0 := ⟨_, rfl⟩
            rw [← hx] at cd
            have n1 : (0 : Int) ≤ (d : Int) := by omega
            have n2 : (d : Int) < (days.length : Int) := by omega
            have n3 : (0 : Int) ≤ (k : Int) + 1 := by omega
            have n4 : (k : Int) + 1 < (p.steps.length : Int) := by omega
            have n5 : ((k : Int) + 1).toNat = k + 1 := by omega
            have HX := Lib.hid hx
            clear hx
            by_cases hux : u ≤ x
            · have hdec : decide (u ≤ x) = true := by simpa using hux
              go_upto_region 8 with fail
              go_quiet (fail)
              go_wp2_with fail
              go_roundw
              case measure => simp [intOf]; omega
              case rel => exact ⟨d + 1, by omega, by omega, by go_num, by rw [HST.out d hd1, ← HX.out, hdec]; rfl, below_drewN HB2.out.1 _⟩
            · have hdec : decide (u ≤ x) = false := by simpa using hux
              go_upto_region 8 with fail
              go_quiet (fail)
              go_wp2_with fail
              go_roundw
              case measure => simp [intOf]; omega
              case rel => exact ⟨d + 1, by omega, by omega, by go_num, by rw [HST.out d hd1, ← HX.out, hdec, Bool.false_or, ← HB2.out.2.1], below_drewN HB2.out.1 _⟩
          · obtain rfl : d = day + 1 := by omega
            go_wp2_with fail
            go_roundw
            case measure => simp [intOf]; omega
            case rel => exact ⟨k + 1, by omega, by go_num, by rw [rKN, ← HU.out, ← HLO.out, HB2.out.2.1, HB.out.2.1]; first | rfl | (congr 1; split <;> first | rfl | go_num), HB2.out.1⟩
    · obtain rfl : k = p.steps.length - 1 := by omega
      go_wp2_with fail
      go_ret
      exact ⟨by rw [HB.out.2.1, rKN_kept HC.out hd]; rfl, HB.out.2.2.bel⟩
end Go.Proofs.YtbgnkljjgfcngaaGreat
/- polynyaref08: decided -/
namespace Go.Proofs.YtbgnkljjgfcngaaGreat
open Go Go.RowKit Sp
set_option linter.unusedVariables false

def rlistPost (w : World) (n : Nat) (l : List Int) (e : Ending) (w' : World) : Prop :=
  ∃ A c, e = .returned (.slice A n c) ∧ Rd w' 1 A n (ints l) ∧ n ≤ c ∧ c ≤ 9223372036854775807 ∧ Below w.heap.size w w'

theorem dec_if (a b c : Int) : max a (min b c) = if (if b < c then b else c) < a then a else (if b < c then b else c) := by split <;> split <;> omega
theorem decL_take (up kp : List Int) {n k : Nat} (h : k ≤ n) : (decL up kp n).take k = decL up kp k := by
  simp only [decL, ← List.map_take, List.take_range, Nat.min_eq_left h]

set_option maxRecDepth 100000 in
set_option maxHeartbeats 2000000 in
theorem rdecided_any (As : Option Addr) (cs : Nat) (p : Pol) (A : Option Addr) (c : Nat) (days : List Int) (w : World) (hp : PolV w As cs p) (hr : Rd w 1 A days.length (ints days)) (hc : checkS p = 0) (hl : days.length ≤ 400) :
    Calls Tryz.prog 77 #[.agg #[.slice As p.steps.length cs, .int .i64 p.hold, .int .i64 p.calm, .int .i64 p.notice, .int .i64 p.grace], .slice A days.length c] w (rlistPost w days.length (decidedS p days)) := by
  obtain ⟨i0, hi, hz0, hz1, hz2⟩ := info_parts info_int
  have rd0 := RD.new (A := A) (days := days) hp hr
  obtain ⟨W, hW⟩ : ∃ W, W = w.alloc (.cells #[.slice As p.steps.length cs, .int .i64 p.hold, .int .i64 p.calm, .int .i64 p.notice, .int .i64 p.grace] 65) := ⟨_, rfl⟩
  obtain ⟨ob, hob⟩ : ∃ ob, ob = w.heap.size := ⟨_, rfl⟩
  rw [← hW, ← hob] at rd0
  obtain ⟨up, hup⟩ : ∃ up, up = raisedS p days := ⟨_, rfl⟩
  obtain ⟨kp, hkp⟩ : ∃ kp, kp = keptS p days := ⟨_, rfl⟩
  have HR := Lib.hid (And.intro rd0 (And.intro hc (And.intro hup hkp)))
  clear hp hr hc rd0 hup hkp
  go_enter Tryz.func77, Tryz.ntmps77
  go_wp2_with fail
  rw [← hW, ← hob]
  clear hW hob
  go_loopw [5, 6, 7] (fun o b i wr => ∃ (k : Nat) (Ao : Option Addr) (co : Nat) (q : List Nat), k ≤ days.length ∧ i = .int .i64 k ∧ b = .int .i64 (decN up kp k) ∧ o = .slice Ao k co ∧ OwnA wr 3 Ao k co (ints (decL up kp k)) q ∧ (∀ g ∈ q, W.heap.size ≤ g) ∧ Keep [] W wr) (fun _ _ i _ => days.length - (intOf i).toNat)
  case atStart => exact ⟨0, none, 0, [], Nat.zero_le _, rfl, rfl, rfl, OwnA.nil _ _, by simp, Keep.refl _ _⟩
  case round =>
    obtain ⟨k, Ao, co, q, hk, rfl, rfl, rfl, hown, hq, hK⟩ := hrel
    obtain ⟨d, hd⟩ : ∃ d, d = decN up kp k := ⟨_, rfl⟩
    rw [← hd]
    have HO := Lib.hid (And.intro hown (And.intro hq (And.intro hK hd)))
    clear hown hq hK hd
    by_cases hlt : k < days.length
    · have rdw := HR.out.1.below (HO.out.2.2.1.below (Nat.le_refl _) (by simp))
      obtain ⟨q0, q1, q2, q3, q4, zp⟩ := rdw.cells
      obtain ⟨x, hx⟩ : ∃ x, x = kp.getD k 0 := ⟨_, rfl⟩
      obtain ⟨y, hy⟩ : ∃ y, y = up.getD k 0 := ⟨_, rfl⟩
      have k1 := rKept_any As cs p A c days k wr rdw.pol rdw.dys HR.out.2.1 hlt hl
      rw [← HR.out.2.2.2, ← hx] at k1
      have K1 := Lib.hid (And.intro k1 rdw)
      have HX := Lib.hid (And.intro hx hy)
      clear k1 rdw hx
      go_wp2_with fail
      refine K1.out.1.mono ?_
      rintro e w1 ⟨rfl, b1⟩
      have rdw := K1.out.2.below b1
      clear q0 q1 q2 q3 q4 zp
      obtain ⟨q0, q1, q2, q3, q4, zp⟩ := rdw.cells
      have k2 := rRaised_any As cs p A c days k w1 rdw.pol rdw.dys HR.out.2.1 hlt hl
      rw [← HR.out.2.2.1, ← hy] at k2
      have K2 := Lib.hid k2
      have B1 := Lib.hid b1
      clear k2 b1 rdw hy
      have fin : ∀ (v : Int) (w2 w5 : World) (g off c' : Nat), v = decN up kp (k + 1) → Below w1.heap.size w1 w2 → OwnA w5 3 (some ⟨g, off, none⟩) (k + 1) c' (ints (decL up kp k) ++ [.int .i64 v]) [g] → (g ∈ q ∨ (w2.alloc (.cells #[.int .i64 v] 3)).heap.size = g) → Keep q (w2.alloc (.cells #[.int .i64 v] 3)) w5 →
          OwnA w5 3 (some ⟨g, off, none⟩) (k + 1) c' (ints (decL up kp (k + 1))) [g] ∧ (∀ g' ∈ [g], W.heap.size ≤ g') ∧ Keep [] W w5 := by
        intro v w2 w5 g off c' hv b2 h1 h2 h4
        have k2 : Keep [] W w2 := (HO.out.2.2.1.trans (Keep.of_below (S := []) B1.out) (by simp)).trans (Keep.of_below (S := []) b2) (by simp)
        refine ⟨by rw [decL_succ, ← hv]; simpa [ints] using h1, fun g' hg' => ?_, (k2.alloc _).trans h4 (fun z hz => .inr (HO.out.2.1 z hz))⟩
        rw [List.mem_singleton.1 hg']
        rcases h2 with h2 | h2
        · exact HO.out.2.1 _ h2
        · have := k2.size; simp at h2; omega
      have FIN := Lib.hid fin
      have hv : ∀ v, v = (if (if x < d then x else d) < y then y else (if x < d then x else d)) → v = decN up kp (k + 1) := fun v h => by
        rw [h, decN, ← HO.out.2.2.2, ← HX.out.1, ← HX.out.2]
        omega
      have HVV := Lib.hid hv
      clear fin hv
      by_cases hxd : x < d
      · go_wp2_with fail
        refine K2.out.mono ?_
        rintro e w2 ⟨rfl, b2⟩
        have B2 := Lib.hid b2
        have hob2 : OwnA w2 3 Ao k co (ints (decL up kp k)) q := (HO.out.1.keepS (Keep.of_below (S := []) B1.out) (by simp)).keepS (Keep.of_below (S := []) b2) (by simp)
        have HO2 := Lib.hid hob2
        clear b2 hob2 q0 q1 q2 q3 q4 zp
        by_cases hmy : x < y
        · go_wp2_with (at_builtin
                       refine wpList_append_A rfl (.tmp 26) (.tmp 28) 22 rfl i0 _ 8 Tryz.underlying22 hi hz0 hz1 hz2 rfl (A := Ao) (n := k) (c := co) (xs := ints (decL up kp k)) (fp := q) (by simp [Act.eval]) _ (by simp [Act.eval]) (.int .i64 y) (HO2.out.alloc _) (cell_new_one _ _ _) rfl (by omega) (by omega) ?_
                       intro g off c' w5 h1 h2 h3 h4
                       have HQ := Lib.hid (FIN.out y w2 w5 g off c' (HVV.out y (by rw [show (if x < d then x else d) = x from if_pos (by omega)]; first | exact (if_pos (by omega)).symm | exact (if_neg (by omega)).symm)) B2.out h1 h2 h4)
                       clear h1 h2 h3 h4)
          go_roundw
          case measure => simp [intOf]; omega
          case rel => exact ⟨k + 1, _, c', [g], by omega, by go_num, by rw [HVV.out y (by rw [show (if x < d then x else d) = x from if_pos (by omega)]; first | exact (if_pos (by omega)).symm | exact (if_neg (by omega)).symm)], rfl, HQ.out⟩
        · go_wp2_with (at_builtin
                       refine wpList_append_A rfl (.tmp 26) (.tmp 28) 22 rfl i0 _ 8 Tryz.underlying22 hi hz0 hz1 hz2 rfl (A := Ao) (n := k) (c := co) (xs := ints (decL up kp k)) (fp := q) (by simp [Act.eval]) _ (by simp [Act.eval]) (.int .i64 x) (HO2.out.alloc _) (cell_new_one _ _ _) rfl (by omega) (by omega) ?_
                       intro g off c' w5 h1 h2 h3 h4
                       have HQ := Lib.hid (FIN.out x w2 w5 g off c' (HVV.out x (by rw [show (if x < d then x else d) = x from if_pos (by omega)]; first | exact (if_pos (by omega)).symm | exact (if_neg (by omega)).symm)) B2.out h1 h2 h4)
                       clear h1 h2 h3 h4)
          go_roundw
          case measure => simp [intOf]; omega
          case rel => exact ⟨k + 1, _, c', [g], by omega, by go_num, by rw [HVV.out x (by rw [show (if x < d then x else d) = x from if_pos (by omega)]; first | exact (if_pos (by omega)).symm | exact (if_neg (by omega)).symm)], rfl, HQ.out⟩
      · go_wp2_with fail
        refine K2.out.mono ?_
        rintro e w2 ⟨rfl, b2⟩
        have B2 := Lib.hid b2
        have hob2 : OwnA w2 3 Ao k co (ints (decL up kp k)) q := (HO.out.1.keepS (Keep.of_below (S := []) B1.out) (by simp)).keepS (Keep.of_below (S := []) b2) (by simp)
        have HO2 := Lib.hid hob2
        clear b2 hob2 q0 q1 q2 q3 q4 zp
        by_cases hmy : d < y
        · go_wp2_with (at_builtin
                       refine wpList_append_A rfl (.tmp 26) (.tmp 28) 22 rfl i0 _ 8 Tryz.underlying22 hi hz0 hz1 hz2 rfl (A := Ao) (n := k) (c := co) (xs := ints (decL up kp k)) (fp := q) (by simp [Act.eval]) _ (by simp [Act.eval]) (.int .i64 y) (HO2.out.alloc _) (cell_new_one _ _ _) rfl (by omega) (by omega) ?_
                       intro g off c' w5 h1 h2 h3 h4
                       have HQ := Lib.hid (FIN.out y w2 w5 g off c' (HVV.out y (by rw [show (if x < d then x else d) = d from if_neg (by omega)]; first | exact (if_pos (by omega)).symm | exact (if_neg (by omega)).symm)) B2.out h1 h2 h4)
                       clear h1 h2 h3 h4)
          go_roundw
          case measure => simp [intOf]; omega
          case rel => exact ⟨k + 1, _, c', [g], by omega, by go_num, by rw [HVV.out y (by rw [show (if x < d then x else d) = d from if_neg (by omega)]; first | exact (if_pos (by omega)).symm | exact (if_neg (by omega)).symm)], rfl, HQ.out⟩
        · go_wp2_with (at_builtin
                       refine wpList_append_A rfl (.tmp 26) (.tmp 28) 22 rfl i0 _ 8 Tryz.underlying22 hi hz0 hz1 hz2 rfl (A := Ao) (n := k) (c := co) (xs := ints (decL up kp k)) (fp := q) (by simp [Act.eval]) _ (by simp [Act.eval]) (.int .i64 d) (HO2.out.alloc _) (cell_new_one _ _ _) rfl (by omega) (by omega) ?_
                       intro g off c' w5 h1 h2 h3 h4
                       have HQ := Lib.hid (FIN.out d w2 w5 g off c' (HVV.out d (by rw [show (if x < d then x else d) = d from if_neg (by omega)]; first | exact (if_pos (by omega)).symm | exact (if_neg (by omega)).symm)) B2.out h1 h2 h4)
                       clear h1 h2 h3 h4)
          go_roundw
          case measure => simp [intOf]; omega
          case rel => exact ⟨k + 1, _, c', [g], by omega, by go_num, by rw [HVV.out d (by rw [show (if x < d then x else d) = d from if_neg (by omega)]; first | exact (if_pos (by omega)).symm | exact (if_neg (by omega)).symm)], rfl, HQ.out⟩
    · obtain rfl : k = days.length := by omega
      go_wp2_with fail
      go_ret
      exact ⟨Ao, co, rfl, by have h5 := HO.out.1.rd; rwa [HR.out.2.2.1, HR.out.2.2.2] at h5, HO.out.1.ge, HO.out.1.cap, HR.out.1.bel.trans (HO.out.2.2.1.below HR.out.1.bel.size (by simp))⟩
end Go.Proofs.YtbgnkljjgfcngaaGreat
/- polynyaref08: force -/
namespace Go.Proofs.YtbgnkljjgfcngaaGreat
open Go Go.RowKit Sp
set_option linter.unusedVariables false

def frN (dec : List Int) (day : Nat) : Nat → Int
  | 0 => dec.getD day 0
  | n + 1 => if day < n + 1 then 0 else if dec.getD (day - (n + 1)) 0 < frN dec day n then dec.getD (day - (n + 1)) 0 else frN dec day n
section
variable {p : Pol} {days : List Int} {day : Nat}
theorem frN_ge (hc : checkS p = 0) (hd : day < days.length) : ∀ {n : Nat}, (n : Int) ≤ p.notice → (forceS p days).getD day 0 ≤ frN (decidedS p days) day n
  | 0, _ => force_le (check_ok hc).2.2.2.2.2.2.1 hd (Nat.le_refl _) (by have := (check_ok hc).2.2.2.2.2.2.1; omega)
  | n + 1, h => by
    have ih := frN_ge hc hd (n := n) (by omega)
    unfold frN
    split
    · exact force_early hd (by omega)
    · have := force_le (p := p) (days := days) (check_ok hc).2.2.2.2.2.2.1 hd (j := day - (n + 1)) (by omega) (by omega)
      split <;> omega
theorem frN_le (hc : checkS p = 0) : ∀ {n : Nat}, (∀ j, j ≤ n → j ≤ day → frN (decidedS p days) day n ≤ (decidedS p days).getD (day - j) 0) ∧ (day < n → frN (decidedS p days) day n ≤ 0)
  | 0 => ⟨fun j h _ => by obtain rfl : j = 0 := by omega
                          exact Int.le_refl _, fun h => absurd h (by omega)⟩
  | n + 1 => by
    have ih := frN_le hc (n := n)
    unfold frN
    by_cases h : day < n + 1
    · rw [if_pos h]
      exact ⟨fun j _ _ => (dec_step hc days (day - j)).1, fun _ => Int.le_refl _⟩
    · rw [if_neg h]
      refine ⟨fun j h1 h2 => ?_, fun h1 => absurd h1 h⟩
      by_cases e : j = n + 1
      · subst e; split <;> omega
      · have := ih.1 j (by omega) h2
        split <;> omega
theorem frN_force (hc : checkS p = 0) (hd : day < days.length) : frN (decidedS p days) day p.notice.toNat = (forceS p days).getD day 0 := by
  have hn := (check_ok hc).2.2.2.2.2.2.1
  refine Int.le_antisymm (le_force hn hd (fun h => (frN_le hc).2 (by omega)) fun j h1 h2 => ?_) (frN_ge hc hd (by omega))
  have := (frN_le (days := days) (day := day) hc (n := p.notice.toNat)).1 (day - j) (by omega) (by omega)
  rwa [show day - (day - j) = j from by omega] at this
end
theorem forceS_take (p : Pol) (days : List Int) {k : Nat} (hk : k < days.length) : (forceS p days).take (k + 1) = (forceS p days).take k ++ [(forceS p days).getD k 0] := by
  have h : k < (forceS p days).length := by rw [forceS_length]; exact hk
  rw [List.take_succ_eq_append_getElem h, List.getD_eq_getElem?_getD, List.getElem?_eq_getElem h]; rfl

def rlistNew (w : World) (n : Nat) (l : List Int) (e : Ending) (w' : World) : Prop :=
  ∃ A c, e = .returned (.slice A n c) ∧ Rd w' 1 A n (ints l) ∧ n ≤ c ∧ c ≤ 9223372036854775807 ∧ Below w.heap.size w w' ∧ ∀ b o, A = some ⟨b, o, none⟩ → 0 < n → w.heap.size ≤ b
set_option maxRecDepth 100000 in
set_option maxHeartbeats 2000000 in
theorem rforce_new (As : Option Addr) (cs : Nat) (p : Pol) (A : Option Addr) (c : Nat) (days : List Int) (w : World) (hp : PolV w As cs p) (hr : Rd w 1 A days.length (ints days)) (hc : checkS p = 0) (hl : days.length ≤ 400) :
    Calls Tryz.prog 78 #[.agg #[.slice As p.steps.length cs, .int .i64 p.hold, .int .i64 p.calm, .int .i64 p.notice, .int .i64 p.grace], .slice A days.length c] w (rlistNew w days.length (forceS p days)) := by
  obtain ⟨i0, hi, hz0, hz1, hz2⟩ := info_parts info_int
  have rd0 := RD.new (A := A) (days := days) hp hr
  obtain ⟨W0, hW⟩ : ∃ W, W = w.alloc (.cells #[.slice As p.steps.length cs, .int .i64 p.hold, .int .i64 p.calm, .int .i64 p.notice, .int .i64 p.grace] 65) := ⟨_, rfl⟩
  obtain ⟨ob, hob⟩ : ∃ ob, ob = w.heap.size := ⟨_, rfl⟩
  rw [← hW, ← hob] at rd0
  have hno := (check_ok hc).2.2.2.2.2.2
  have hn0 := hno.1
  have hn1 := hno.2.1
  have k1 := rdecided_any As cs p A c days W0 rd0.pol rd0.dys hc hl
  obtain ⟨q0, q1, q2, q3, q4, zp⟩ := rd0.cells
  have HR := Lib.hid (And.intro rd0 (And.intro hc k1))
  clear hp hr hc rd0 k1 hno
  go_enter Tryz.func78, Tryz.ntmps78
  go_upto_region 2 with fail
  rw [← hW, ← hob]
  clear hW hob
  go_wp2_with fail
  refine HR.out.2.2.mono ?_
  rintro e W ⟨Al, cl, rfl, hl1, hl2, hl3, b1⟩
  have HL := Lib.hid (And.intro hl1 (HR.out.1.below b1))
  clear hl1 b1 q0 q1 q2 q3 q4 zp
  go_wp2_with fail
  go_loopw [5, 7] (fun o i wr => ∃ (k : Nat) (Ao : Option Addr) (co : Nat) (q : List Nat), k ≤ days.length ∧ i = .int .i64 k ∧ o = .slice Ao k co ∧ OwnA wr 3 Ao k co (ints ((forceS p days).take k)) q ∧ (∀ g ∈ q, W.heap.size ≤ g) ∧ Keep [] W wr) (fun _ i _ => days.length - (intOf i).toNat)
  case atStart => exact ⟨0, none, 0, [], Nat.zero_le _, rfl, rfl, by simpa [ints] using OwnA.nil _ _, by simp, Keep.refl _ _⟩
  case round =>
    obtain ⟨k, Ao, co, q, hk, rfl, rfl, hown, hq, hK⟩ := hrel
    have HO := Lib.hid (And.intro hown (And.intro hq hK))
    clear hown hq hK
    by_cases hlt : k < days.length
    · have rdw := HL.out.2.below (HO.out.2.2.below (Nat.le_refl _) (by simp))
      obtain ⟨q0, q1, q2, q3, q4, zp⟩ := rdw.cells
      obtain ⟨bl, ol, rfl, zl, cl'⟩ := HL.out.1.2 (by omega)
      obtain ⟨dl, hdl⟩ : ∃ dl, dl = decidedS p days := ⟨_, rfl⟩
      rw [← hdl] at cl'
      have cw : ∀ j, j < days.length → wr.cell? ⟨bl, ol + j, none⟩ = some (.int .i64 (dl.getD j 0)) := fun j hj => HO.out.2.2.cell (cl' j _ (ints_get (by rw [hdl, decidedS_length]; exact hj))) (by simp)
      obtain ⟨x, hx⟩ : ∃ x, x = dl.getD k 0 := ⟨_, rfl⟩
      have ck := cw k hlt
      rw [← hx] at ck
      have HC := Lib.hid (And.intro cw (And.intro hdl hx))
      clear cw cl' hdl hx rdw
      go_wp2_with fail
      obtain ⟨wo, rfl⟩ : ∃ wo : World, wo = wr := ⟨_, rfl⟩
      go_loop [8, 9] (fun l n => ∃ m : Nat, (m : Int) ≤ p.notice ∧ n = .int .i64 ((m : Int) + 1) ∧ l = .int .i64 (frN dl k m)) (fun _ n => (p.notice + 1 - intOf n).toNat)
      case atStart => exact ⟨0, by omega, rfl, by rw [HC.out.2.2]; rfl⟩
      case round =>
        obtain ⟨m, hm, rfl, rfl⟩ := hrel
        obtain ⟨f, hf⟩ : ∃ f, f = frN dl k m := ⟨_, rfl⟩
        rw [← hf]
        have HF := Lib.hid hf
        clear hf
        by_cases hmn : (m : Int) + 1 ≤ p.notice
        · by_cases hkm : (k : Int) - ((m : Int) + 1) < 0
          · go_wp2_with fail
            go_round
            case measure => simp [intOf]; omega
            case rel => exact ⟨m + 1, by omega, by go_num, by rw [frN, if_pos (by omega)]⟩
          · obtain ⟨y, hy⟩ : ∃ y, y = dl.getD (k - (m + 1)) 0 := ⟨_, rfl⟩
            have cy := HC.out.1 (k - (m + 1)) (by omega)
            rw [← hy] at cy
            have HY := Lib.hid hy
            clear hy
            by_cases hyf : y < f
            · go_wp2_with fail
              go_round
              case measure => simp [intOf]; omega
              case rel => exact ⟨m + 1, by omega, by go_num, by rw [frN, if_neg (by omega), ← HY.out, ← HF.out, if_pos hyf]⟩
            · go_wp2_with fail
              go_round
              case measure => simp [intOf]; omega
              case rel => exact ⟨m + 1, by omega, by go_num, by rw [frN, if_neg (by omega), ← HY.out, ← HF.out, if_neg (by omega)]⟩
        · have hff : f = (forceS p days).getD k 0 := by
            rw [HF.out, HC.out.2.1, show m = p.notice.toNat from by omega]
            exact frN_force HR.out.2.1 hlt
          have HFF := Lib.hid hff
          clear hff
          go_wp2_with (at_builtin
                       refine wpList_append_A rfl (.tmp 41) (.tmp 43) 22 rfl i0 _ 8 Tryz.underlying22 hi hz0 hz1 hz2 rfl (A := Ao) (n := k) (c := co) (xs := ints ((forceS p days).take k)) (fp := q) (by simp [Act.eval]) _ (by simp [Act.eval]) (.int .i64 f) (HO.out.1.alloc _) (cell_new_one _ _ _) rfl (by omega) (by omega) ?_
                       intro g off c' w5 h1 h2 h3 h4
                       have HQ := Lib.hid (And.intro h1 (And.intro h2 h4))
                       clear h1 h2 h3 h4)
          go_roundw
          case measure => simp [intOf]; omega
          case rel =>
            obtain ⟨h1, h2, h4⟩ := HQ.out
            refine ⟨k + 1, some ⟨g, off, none⟩, c', [g], by omega, by go_num, rfl, by rw [forceS_take p days hlt, ← HFF.out]; simpa [ints] using h1, fun g' hg' => ?_, (HO.out.2.2.alloc _).trans h4 (fun z hz => .inr (HO.out.2.1 z hz))⟩
            rw [List.mem_singleton.1 hg']
            rcases h2 with h2 | h2
            · exact HO.out.2.1 _ h2
            · have := HO.out.2.2.size; simp at h2; omega
    · obtain rfl : k = days.length := by omega
      go_wp2_with fail
      go_ret
      exact ⟨Ao, co, rfl, by have h5 := HO.out.1.rd; rwa [List.take_of_length_le (by rw [forceS_length]; exact Nat.le_refl _)] at h5, HO.out.1.ge, HO.out.1.cap, HL.out.2.bel.trans (HO.out.2.2.below HL.out.2.bel.size (by simp)), fun b o e h0 => by have h5 := HO.out.2.1 b (HO.out.1.mem_ h0 e); have h6 := HL.out.2.bel.size; have h7 := (HR.out.1).bel.size; omega⟩
theorem rforce_any (As : Option Addr) (cs : Nat) (p : Pol) (A : Option Addr) (c : Nat) (days : List Int) (w : World) (hp : PolV w As cs p) (hr : Rd w 1 A days.length (ints days)) (hc : checkS p = 0) (hl : days.length ≤ 400) :
    Calls Tryz.prog 78 #[.agg #[.slice As p.steps.length cs, .int .i64 p.hold, .int .i64 p.calm, .int .i64 p.notice, .int .i64 p.grace], .slice A days.length c] w (rlistPost w days.length (forceS p days)) :=
  (rforce_new As cs p A c days w hp hr hc hl).mono fun e w' ⟨A1, c1, h1, h2, h3, h4, h5, _⟩ => ⟨A1, c1, h1, h2, h3, h4, h5⟩
end Go.Proofs.YtbgnkljjgfcngaaGreat
/- polynyaref08: Decided, Force -/
namespace Go.Proofs.YtbgnkljjgfcngaaGreat
open Go Go.RowKit Sp
set_option linter.unusedVariables false

def rDecidedL (p : Pol) (days : List Int) : List Int := if startS p days = 0 then decidedS p days else []
set_option maxRecDepth 100000 in
set_option maxHeartbeats 1000000 in
theorem rDecided_any (As : Option Addr) (cs : Nat) (p : Pol) (A : Option Addr) (c : Nat) (days : List Int) (w : World) (hp : PolV w As cs p) (hr : Rd w 1 A days.length (ints days)) (hm : days.length ≤ 9223372036854775807) :
    Calls Tryz.prog 23 #[.agg #[.slice As p.steps.length cs, .int .i64 p.hold, .int .i64 p.calm, .int .i64 p.notice, .int .i64 p.grace], .slice A days.length c] w
      fun e w' => ∃ A1 c1, e = .returned (.tuple #[.slice A1 (rDecidedL p days).length c1, .int .i64 (startS p days)]) ∧ Rd w' 1 A1 (rDecidedL p days).length (ints (rDecidedL p days)) ∧ Below w.heap.size w w' := by
  have rd0 := RD.new (A := A) (days := days) hp hr
  obtain ⟨W, hW⟩ : ∃ W, W = w.alloc (.cells #[.slice As p.steps.length cs, .int .i64 p.hold, .int .i64 p.calm, .int .i64 p.notice, .int .i64 p.grace] 65) := ⟨_, rfl⟩
  obtain ⟨ob, hob⟩ : ∃ ob, ob = w.heap.size := ⟨_, rfl⟩
  rw [← hW, ← hob] at rd0
  obtain ⟨er, her⟩ : ∃ er, er = startS p days := ⟨_, rfl⟩
  have k1 := begun_any As cs p A c days W rd0.pol rd0.dys hm
  rw [← her] at k1
  obtain ⟨q0, q1, q2, q3, q4, zp⟩ := rd0.cells
  have HR := Lib.hid (And.intro rd0 (And.intro k1 her))
  clear hp hr rd0 k1 her
  go_enter Tryz.func23, Tryz.ntmps23
  go_upto_region 1 with fail
  rw [← hW, ← hob]
  clear hW hob
  go_wp2_with fail
  refine HR.out.2.1.mono ?_
  rintro e w1 ⟨rfl, b1⟩
  have rd1 := HR.out.1.below b1
  clear q0 q1 q2 q3 q4 zp b1
  by_cases h0 : er = 0
  · subst h0
    have hs : startS p days = 0 := HR.out.2.2.symm
    obtain ⟨hck, hl4, _⟩ := start_ok hs
    obtain ⟨q0, q1, q2, q3, q4, zp⟩ := rd1.cells
    have k2 := rdecided_any As cs p A c days w1 rd1.pol rd1.dys hck (by omega)
    have H1 := Lib.hid (And.intro rd1 (And.intro k2 hs))
    clear rd1 k2 hs hck
    go_wp2_with fail
    refine H1.out.2.1.mono ?_
    rintro e w2 ⟨A2, c2, rfl, h1, _, _, b2⟩
    have H2 := Lib.hid (And.intro h1 (H1.out.1.below b2).bel)
    clear h1 b2 q0 q1 q2 q3 q4 zp
    go_wp2_with fail
    go_ret2
    have hL : rDecidedL p days = decidedS p days := by unfold rDecidedL; rw [if_pos H1.out.2.2]
    exact ⟨A2, c2, by rw [hL, decidedS_length, H1.out.2.2]; rfl, by rw [hL, decidedS_length]; exact H2.out.1, H2.out.2⟩
  · have hne : (er != 0) = true := by simp [h0]
    have HK := Lib.hid (And.intro h0 rd1.bel)
    clear h0 rd1
    go_wp2_with fail
    go_ret2
    have hL : rDecidedL p days = [] := by unfold rDecidedL; rw [if_neg (by rw [← HR.out.2.2]; exact HK.out.1)]
    exact ⟨none, 0, by rw [hL, ← HR.out.2.2]; rfl, by rw [hL]; exact Rd.nil _ _ _, HK.out.2⟩

def rForceL (p : Pol) (days : List Int) : List Int := if startS p days = 0 then forceS p days else []
set_option maxRecDepth 100000 in
set_option maxHeartbeats 1000000 in
theorem rForce_any (As : Option Addr) (cs : Nat) (p : Pol) (A : Option Addr) (c : Nat) (days : List Int) (w : World) (hp : PolV w As cs p) (hr : Rd w 1 A days.length (ints days)) (hm : days.length ≤ 9223372036854775807) :
    Calls Tryz.prog 25 #[.agg #[.slice As p.steps.length cs, .int .i64 p.hold, .int .i64 p.calm, .int .i64 p.notice, .int .i64 p.grace], .slice A days.length c] w
      fun e w' => ∃ A1 c1, e = .returned (.tuple #[.slice A1 (rForceL p days).length c1, .int .i64 (startS p days)]) ∧ Rd w' 1 A1 (rForceL p days).length (ints (rForceL p days)) ∧ Below w.heap.size w w' := by
  have rd0 := RD.new (A := A) (days := days) hp hr
  obtain ⟨W, hW⟩ : ∃ W, W = w.alloc (.cells #[.slice As p.steps.length cs, .int .i64 p.hold, .int .i64 p.calm, .int .i64 p.notice, .int .i64 p.grace] 65) := ⟨_, rfl⟩
  obtain ⟨ob, hob⟩ : ∃ ob, ob = w.heap.size := ⟨_, rfl⟩
  rw [← hW, ← hob] at rd0
  obtain ⟨er, her⟩ : ∃ er, er = startS p days := ⟨_, rfl⟩
  have k1 := begun_any As cs p A c days W rd0.pol rd0.dys hm
  rw [← her] at k1
  obtain ⟨q0, q1, q2, q3, q4, zp⟩ := rd0.cells
  have HR := Lib.hid (And.intro rd0 (And.intro k1 her))
  clear hp hr rd0 k1 her
  go_enter Tryz.func25, Tryz.ntmps25
  go_upto_region 1 with fail
  rw [← hW, ← hob]
  clear hW hob
  go_wp2_with fail
  refine HR.out.2.1.mono ?_
  rintro e w1 ⟨rfl, b1⟩
  have rd1 := HR.out.1.below b1
  clear q0 q1 q2 q3 q4 zp b1
  by_cases h0 : er = 0
  · subst h0
    have hs : startS p days = 0 := HR.out.2.2.symm
    obtain ⟨hck, hl4, _⟩ := start_ok hs
    obtain ⟨q0, q1, q2, q3, q4, zp⟩ := rd1.cells
    have k2 := rforce_any As cs p A c days w1 rd1.pol rd1.dys hck (by omega)
    have H1 := Lib.hid (And.intro rd1 (And.intro k2 hs))
    clear rd1 k2 hs hck
    go_wp2_with fail
    refine H1.out.2.1.mono ?_
    rintro e w2 ⟨A2, c2, rfl, h1, _, _, b2⟩
    have H2 := Lib.hid (And.intro h1 (H1.out.1.below b2).bel)
    clear h1 b2 q0 q1 q2 q3 q4 zp
    go_wp2_with fail
    go_ret2
    have hL : rForceL p days = forceS p days := by unfold rForceL; rw [if_pos H1.out.2.2]
    exact ⟨A2, c2, by rw [hL, forceS_length, H1.out.2.2]; rfl, by rw [hL, forceS_length]; exact H2.out.1, H2.out.2⟩
  · have hne : (er != 0) = true := by simp [h0]
    have HK := Lib.hid (And.intro h0 rd1.bel)
    clear h0 rd1
    go_wp2_with fail
    go_ret2
    have hL : rForceL p days = [] := by unfold rForceL; rw [if_neg (by rw [← HR.out.2.2]; exact HK.out.1)]
    exact ⟨none, 0, by rw [hL, ← HR.out.2.2]; rfl, by rw [hL]; exact Rd.nil _ _ _, HK.out.2⟩
end Go.Proofs.YtbgnkljjgfcngaaGreat
/- polynyakit.SameInts, CopyInts; polynyaref08.asked -/
namespace Go.Proofs.YtbgnkljjgfcngaaGreat
open Go Go.RowKit Sp
set_option linter.unusedVariables false

set_option maxRecDepth 100000 in
set_option maxHeartbeats 1000000 in
theorem sameInts_any (A : Option Addr) (c : Nat) (l : List Int) (B : Option Addr) (d : Nat) (w : World) (hr : Rd w 1 A l.length (ints l)) (hr2 : Rd w 1 B l.length (ints l)) (hm : l.length ≤ 9223372036854775807) :
    Calls Tryz.prog 24 #[.slice A l.length c, .slice B l.length d] w fun e w' => e = .returned (.bool true) ∧ Below w.heap.size w w' := by
  have HR := Lib.hid (And.intro hr hr2)
  clear hr hr2
  go_enter Tryz.func24, Tryz.ntmps24
  go_wp2_with fail
  go_loopw [5] (fun i wr => ∃ k : Nat, k ≤ l.length ∧ i = .int .i64 k ∧ Below w.heap.size w wr) (fun i _ => l.length - (intOf i).toNat)
  case atStart => exact ⟨0, Nat.zero_le _, rfl, Below.refl _ _⟩
  case round =>
    obtain ⟨k, hk, rfl, hb⟩ := hrel
    by_cases hlt : k < l.length
    · obtain ⟨b1, o1, rfl, z1, k1⟩ := HR.out.1.2 (by omega)
      obtain ⟨b2, o2, rfl, z2, k2⟩ := HR.out.2.2 (by omega)
      obtain ⟨x, hx⟩ : ∃ x, x = l.getD k 0 := ⟨_, rfl⟩
      have c1 := (hb.cell (p := ⟨b1, o1 + k, none⟩) z1).trans (k1 k _ (ints_get hlt))
      have c2 := (hb.cell (p := ⟨b2, o2 + k, none⟩) z2).trans (k2 k _ (ints_get hlt))
      rw [← hx] at c1 c2
      have hxx : (x != x) = false := by simp
      have n1 : (0 : Int) ≤ (k : Int) := by omega
      have n2 : (k : Int) < (l.length : Int) := by omega
      have HB := Lib.hid hb
      clear k1 k2 hx hb z1 z2
      go_upto_region 6 with fail
      go_quiet (fail)
      go_wp2_with fail
      go_roundw
      case measure => simp [intOf]; omega
      case rel => exact ⟨k + 1, by omega, by go_num, below_drewN HB.out _⟩
    · have HB := Lib.hid hb
      clear hb
      go_wp2_with fail
      go_ret
      exact ⟨rfl, HB.out⟩

set_option maxRecDepth 100000 in
set_option maxHeartbeats 1000000 in
theorem rasked_any (As : Option Addr) (cs : Nat) (p : Pol) (A : Option Addr) (c : Nat) (days : List Int) (v : Ves) (w : World) (hp : PolV w As cs p) (hr : Rd w 1 A days.length (ints days)) (hm : days.length ≤ 9223372036854775807) :
    Calls Tryz.prog 86 #[.agg #[.slice As p.steps.length cs, .int .i64 p.hold, .int .i64 p.calm, .int .i64 p.notice, .int .i64 p.grace], .slice A days.length c, .agg #[.int .i64 v.cls, .int .i64 v.ton, .bool v.esc]] w
      fun e w' => e = .returned (.int .i64 (askS p days v)) ∧ Below w.heap.size w w' := by
  have rd0 := RD.new (A := A) (days := days) hp hr
  obtain ⟨W1, hW1⟩ : ∃ W, W = w.alloc (.cells #[.slice As p.steps.length cs, .int .i64 p.hold, .int .i64 p.calm, .int .i64 p.notice, .int .i64 p.grace] 65) := ⟨_, rfl⟩
  obtain ⟨ob, hob⟩ : ∃ ob, ob = w.heap.size := ⟨_, rfl⟩
  rw [← hW1, ← hob] at rd0
  obtain ⟨W, hW⟩ : ∃ W, W = W1.alloc (.cells #[.int .i64 v.cls, .int .i64 v.ton, .bool v.esc] 94) := ⟨_, rfl⟩
  obtain ⟨vb, hvb⟩ : ∃ vb, vb = W1.heap.size := ⟨_, rfl⟩
  have hvb2 : vb = ob + 1 := by rw [hvb, hW1, hob]; simp
  have hvh : W.heap[vb]? = some (.cells #[.int .i64 v.cls, .int .i64 v.ton, .bool v.esc] 94 (0, 0)) := by rw [hW, hvb]; exact heap_alloc_new _ _
  have rdW : RD w W ob As cs p A days := rd0.below (by rw [hW]; exact (Below.refl _ _).alloc (Nat.le_refl _) _)
  obtain ⟨er, her⟩ : ∃ er, er = startS p days := ⟨_, rfl⟩
  have k1 := begun_any As cs p A c days W rdW.pol rdW.dys hm
  rw [← her] at k1
  obtain ⟨q0, q1, q2, q3, q4, zp⟩ := rdW.cells
  have HR := Lib.hid (And.intro rdW (And.intro k1 (And.intro her hvh)))
  clear hp hr rd0 rdW k1 her hvh hvb
  go_enter Tryz.func86, Tryz.ntmps86
  go_upto_region 1 with fail
  rw [← hW1, ← hob, ← hvb2, ← hW]
  clear hW hob hW1 hvb2
  go_wp2_with fail
  refine HR.out.2.1.mono ?_
  rintro e w1 ⟨rfl, b1⟩
  have rd1 := HR.out.1.below b1
  have hv1 := (b1.block _ (heap_lt HR.out.2.2.2)).trans HR.out.2.2.2
  have v0 := (cell_of_heap hv1 0).trans rfl
  have v1 := (cell_of_heap hv1 1).trans rfl
  have v2 := (cell_of_heap hv1 2).trans rfl
  have zv := heap_lt hv1
  clear q0 q1 q2 q3 q4 zp b1 hv1
  have HB := Lib.hid rd1.bel
  clear rd1
  by_cases h0 : er = 0
  · subst h0
    obtain ⟨vr, hvr⟩ : ∃ vr, vr = vright v := ⟨_, rfl⟩
    have hrt : ∀ wx, Calls Tryz.prog 90 #[.agg #[.int .i64 v.cls, .int .i64 v.ton, .bool v.esc]] wx fun e w' => e = .returned (.bool vr) ∧ Below wx.heap.size wx w' := fun wx => by rw [hvr]; exact rvessel_any v wx
    have HV := Lib.hid (And.intro hvr hrt)
    clear hvr hrt
    cases vr
    all_goals
      go_wp2_with (go_at_call 90; refine (HV.out.2 _).mono ?_; rintro e w2 ⟨rfl, b2⟩)
      go_ret
      exact ⟨by rw [ask_right HR.out.2.2.1.symm, ← HV.out.1]; rfl, HB.out.trans (b2.mono HB.out.size)⟩
  · have hne : (er != 0) = true := by simp [h0]
    have HK := Lib.hid h0
    clear h0
    go_wp2_with fail
    go_ret
    exact ⟨by rw [ask_start (by rw [← HR.out.2.2.1]; exact HK.out), ← HR.out.2.2.1]; rfl, HB.out⟩
end Go.Proofs.YtbgnkljjgfcngaaGreat
/- polynyakit.CopyInts -/
namespace Go.Proofs.YtbgnkljjgfcngaaGreat
open Go Go.RowKit Sp
set_option linter.unusedVariables false

set_option maxRecDepth 100000 in
set_option maxHeartbeats 1000000 in
theorem copyInts_any (A : Option Addr) (c : Nat) (l : List Int) (w : World) (hr : Rd w 1 A l.length (ints l)) (hl : l.length ≤ 100000000) :
    Calls Tryz.prog 19 #[.slice A l.length c] w fun e w' => ∃ A1 c1, e = .returned (.slice A1 l.length c1) ∧ Rd w' 1 A1 l.length (ints l) ∧ l.length ≤ c1 ∧ c1 ≤ 9223372036854775807 ∧ Below w.heap.size w w' := by
  obtain ⟨i0, hi, hz0, hz1, hz2⟩ := info_parts info_int
  have HR := Lib.hid hr
  clear hr
  go_enter Tryz.func19, Tryz.ntmps19
  go_wp2_with (at_builtin
               refine wpList_append_As rfl (.tmp 4) (.tmp 5) 22 rfl i0 _ 8 Tryz.underlying22 hi hz0 hz1 hz2 rfl (A := none) (n := 0) (c := 0) (B := A) (m := l.length) (d := c) (xs := []) (fp := []) (ys := ints l) (by simp [Act.eval]) (by simp [Act.eval]) (OwnA.nil _ _) HR.out (by intro u hu; obtain ⟨x, _, rfl⟩ := List.mem_map.1 hu; rfl) (by omega) (by omega) ?_
               intro A' c' w' fp' h1 h2 h3
               have HQ := Lib.hid (And.intro h1 (And.intro h2 h3))
               clear h1 h2 h3)
  go_ret
  have h1 := HQ.out.1
  rw [Nat.zero_add, List.nil_append] at h1
  exact ⟨A', c', by simp, h1.rd, h1.ge, h1.cap, HQ.out.2.2.below (Nat.le_refl _) (by simp)⟩
end Go.Proofs.YtbgnkljjgfcngaaGreat
