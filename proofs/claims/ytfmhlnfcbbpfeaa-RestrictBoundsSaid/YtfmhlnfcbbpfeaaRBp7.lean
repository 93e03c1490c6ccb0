/- rules.shows -/
import Derived.Test.YtfmhlnfcbbpfeaaRBp6
import Derived.Test.YtfmhlnfcbbpfeaaRBp2
set_option linter.unusedVariables false
namespace Go.Proofs.Ytfmhlnfcbbpfeaa
open Go Go.RowKit Sp

def allGe (m : Int) (xs : List Int) (a : Nat) : Nat → Bool
  | 0 => true
  | n + 1 => allGe m xs a n && decide (m ≤ xs.getD (a + n) 0)
theorem allGe_false {m : Int} {xs : List Int} {a k : Nat} (h : ¬ m ≤ xs.getD (a + k) 0) : ∀ {n}, k < n → allGe m xs a n = false
  | 0, hk => absurd hk (by omega)
  | n + 1, hk => by
    unfold allGe
    by_cases e : k = n
    · subst e; rw [decide_eq_false h, Bool.and_false]
    · rw [allGe_false h (by omega : k < n), Bool.false_and]
theorem allGe_succ {m : Int} {xs : List Int} {a n : Nat} (h : allGe m xs a n = true) (h1 : m ≤ xs.getD (a + n) 0) : allGe m xs a (n + 1) = true := by unfold allGe; rw [h, decide_eq_true h1]; rfl
theorem allGe_iff {m : Int} {xs : List Int} {a n : Nat} : allGe m xs a n = true ↔ ∀ k, k < n → m ≤ xs.getD (a + k) 0 := by
  induction n with
  | zero => simp [allGe]
  | succ n ih =>
    rw [allGe, Bool.and_eq_true, ih, decide_eq_true_iff]
    exact ⟨fun h k hk => by by_cases e : k = n; (subst e; exact h.2); exact h.1 k (by omega), fun h => ⟨fun k hk => h k (by omega), h n (by omega)⟩⟩

def showsS (p : Pol) (days kp : List Int) (day step lo hi : Int) : Bool :=
  if lo < 0 ∨ day < hi ∨ day < lo ∨ hi - lo + 1 ≠ p.hold then false
  else allGe (p.steps.getD step.toNat default).up days lo.toNat (hi + 1 - lo).toNat && allGe step kp (hi + 1).toNat (day - hi).toNat

set_option maxRecDepth 100000 in
set_option maxHeartbeats 2000000 in
theorem shows_any (pb : Nat) (p : Pol) (A : Option Addr) (c : Nat) (days : List Int) (Ak : Option Addr) (ck : Nat) (kp : List Int) (d j : Nat) (lo hi : Int) (w : World) (hp : PolAt w pb p) (hh : 1 ≤ p.hold ∧ p.hold ≤ 1000)
    (hr : Rd w 1 A days.length (ints days)) (hc : days.length ≤ c ∧ c ≤ 9223372036854775807) (hrk : Rd w 1 Ak days.length (ints kp)) (hck : days.length ≤ ck ∧ ck ≤ 9223372036854775807) (hl : days.length ≤ 100000) (hd : d < days.length) (hj : j < p.steps.length) (hhi : -4000000000000000000 ≤ hi) :
    Calls Try.prog 85 #[.agg #[.pointer (some ⟨pb, 0, none⟩)], .slice A days.length c, .slice Ak days.length ck, .int .i64 d, .int .i64 j, .agg #[.int .i64 lo, .int .i64 hi]] w
      fun e w' => e = .returned (.bool (showsS p days kp d j lo hi)) ∧ Below w.heap.size w w' := by
  obtain ⟨b, off, cc, hs0, hbb, hln, hc0, hc1, hc2, hc3⟩ := hp.step hj
  have b0 : ∀ o o', Below w.heap.size w ((w.alloc o).alloc o') := fun o o' => ((Below.refl _ _).alloc (Nat.le_refl _) _).alloc (by simp) _
  obtain ⟨h, hh1⟩ : ∃ h, h = p.hold := ⟨_, rfl⟩
  have hs1 : w.cell? ⟨pb, 1, none⟩ = some (.int .i64 h) := by obtain ⟨Ap, cp, hh, _⟩ := hp; rw [cell_of_heap hh, hh1]; rfl
  have hpb : pb < w.heap.size := by obtain ⟨Ap, cp, hh, _⟩ := hp; exact heap_lt hh
  rw [← hh1] at hh
  have hH := Lib.hid hh1
  clear hh1 hp hc0 hc1 hc3
  by_cases g1 : lo < 0
  · have d1 : decide (lo < 0) = true := by simp [g1]
    go_enter Try.func85, Try.ntmps85
    go_upto_region 1 with fail
    go_quiet (fail)
    go_wp2_with fail
    go_ret
    exact ⟨by rw [showsS, if_pos (.inl g1)]; rfl, below_drewN (b0 _ _) _⟩
  · have d1 : decide (lo < 0) = false := by simp [g1]
    by_cases g2 : (d : Int) < hi
    · have d2 : decide ((d : Int) < hi) = true := by simp [g2]
      go_enter Try.func85, Try.ntmps85
      go_upto_region 1 with fail
      go_quiet (fail)
      go_wp2_with fail
      go_ret
      exact ⟨by rw [showsS, if_pos (.inr (.inl g2))]; rfl, below_drewN (b0 _ _) _⟩
    · have d2 : decide ((d : Int) < hi) = false := by simp [g2]
      by_cases g3 : (d : Int) < lo
      · have d3 : decide ((d : Int) < lo) = true := by simp [g3]
        go_enter Try.func85, Try.ntmps85
        go_upto_region 1 with fail
        go_quiet (fail)
        go_wp2_with fail
        go_ret
        exact ⟨by rw [showsS, if_pos (.inr (.inr (.inl g3)))]; rfl, below_drewN (b0 _ _) _⟩
      · have d3 : decide ((d : Int) < lo) = false := by simp [g3]
        have q1 : (0 : Int) ≤ lo := by omega
        have q2 : lo ≤ (d : Int) := by omega
        have q3 : hi ≤ (d : Int) := by omega
        by_cases g4 : hi - lo + 1 = h
        · have d4 : (hi - lo + 1 != h) = false := by simp [g4]
          obtain ⟨a, rfl⟩ : ∃ a : Nat, lo = a := ⟨lo.toNat, by omega⟩
          obtain ⟨z, rfl⟩ : ∃ z : Nat, hi = z := ⟨hi.toNat, by omega⟩
          obtain ⟨b1, o1, rfl, hb1, hcd⟩ := hr.2 (by omega)
          obtain ⟨b2, o2, rfl, hb2, hck2⟩ := hrk.2 (by omega)
          go_enter Try.func85, Try.ntmps85
          go_upto_region 1 with fail
          go_quiet (fail)
          go_wp2_with fail
          obtain ⟨W, hW⟩ : ∃ W, W = (((w.alloc (Obj.cells #[Value.pointer (some { block := pb, off := 0 })] 143)).alloc (Obj.cells #[Value.int IntKind.i64 ↑a, Value.int IntKind.i64 ↑z] 42)).drewN nq) := ⟨_, rfl⟩
          rw [← hW]
          have bW : Below w.heap.size w W := by rw [hW]; exact below_drewN (b0 _ _) _
          have e0 : W.cell? ⟨w.heap.size, 0, none⟩ = some (.pointer (some ⟨pb, 0, none⟩)) := by
            rw [hW, World.cell?_drewN, World.cell?_alloc_lt _ _ _ (by simp)]; exact cell_new_one _ _ _
          have e1 : W.cell? ⟨w.heap.size + 1, 1, none⟩ = some (.int .i64 z) := by
            rw [hW, World.cell?_drewN]
            have := World.cell?_alloc_new (w.alloc (Obj.cells #[Value.pointer (some { block := pb, off := 0 })] 143)) #[Value.int IntKind.i64 ↑a, Value.int IntKind.i64 ↑z] 42 1
            rw [World.size_alloc] at this
            exact this
          have e2 := (bW.cell (p := ⟨pb, 0, none⟩) hpb).trans hs0
          have e3 := (bW.cell (p := ⟨b, off + j * 4 + 2, none⟩) hbb).trans hc2
          obtain ⟨u, hu⟩ : ∃ u, u = p.steps[j].up := ⟨_, rfl⟩
          rw [← hu] at e3
          have hu' : u = (p.steps.getD j default).up := by rw [hu]; simp [hj]
          have f1 : ∀ k, k < days.length → W.cell? ⟨b1, o1 + k, none⟩ = some (.int .i64 (days.getD k 0)) := fun k hk => (bW.cell (p := ⟨b1, o1 + k, none⟩) hb1).trans (hcd k _ (ints_get hk))
          have hkl : kp.length = days.length := by have := hrk.1; simpa [ints] using this
          have f2 : ∀ k, k < days.length → W.cell? ⟨b2, o2 + k, none⟩ = some (.int .i64 (kp.getD k 0)) := fun k hk => (bW.cell (p := ⟨b2, o2 + k, none⟩) hb2).trans (hck2 k _ (ints_get (by omega)))
          have hsh : showsS p days kp d j a z = (allGe u days a (z + 1 - a) && allGe j kp (z + 1) (d - z)) := by
            rw [showsS, if_neg (by rw [← hH.out]; omega), hu']
            have n1 : ((a : Int)).toNat = a := by omega
            have n2 : ((z : Int) + 1 - (a : Int)).toNat = z + 1 - a := by omega
            have n3 : ((z : Int) + 1).toNat = z + 1 := by omega
            have n4 : ((d : Int) - (z : Int)).toNat = d - z := by omega
            have n5 : ((j : Int)).toNat = j := by omega
            rw [n1, n2, n3, n4, n5]
          have HS := Lib.hid (And.intro hsh (And.intro bW (And.intro f1 f2)))
          have haz : a ≤ z + 1 := by omega
          have hzd : z ≤ d := by omega
          clear hW hu hu' hsh bW f1 f2 hcd hck2 hs0 hc2 b0 hkl hr hrk hb1 hb2 hbb hpb
          generalize hsw : w.heap.size = sw at e0 e1 ⊢
          go_loopg [54] (z + 1 - a) (fun g i wr => ∃ k : Nat, g + k = z + 1 - a ∧ i = .int .i64 k ∧ allGe u days a k = true ∧ W = wr)
          case atStart => exact ⟨0, by omega, rfl, rfl, rfl⟩
          case round =>
            obtain ⟨k, hk, rfl, hall, rfl⟩ := hrel
            have HA := Lib.hid hall
            clear hall
            by_cases hlt : k < z + 1 - a
            · have c1 : W.cell? ⟨b1, o1 + a + k, none⟩ = some (.int .i64 (days.getD (a + k) 0)) := by rw [Nat.add_assoc]; exact HS.out.2.2.1 (a + k) (by omega)
              obtain ⟨x, hx⟩ : ∃ x, x = days.getD (a + k) 0 := ⟨_, rfl⟩
              rw [← hx] at c1
              have HX := Lib.hid hx
              clear hx
              by_cases hxu : x < u
              · go_wp2_with fail
                go_ret
                refine ⟨?_, hsw ▸ HS.out.2.1⟩
                rw [HS.out.1, allGe_false (k := k) (by rw [← HX.out]; omega) hlt]; rfl
              · go_wp2_with fail
                go_roundg (gk - 1)
                case measure => omega
                case rel => exact ⟨k + 1, by omega, by go_num, allGe_succ HA.out (by rw [← HX.out]; omega), rfl⟩
            · obtain rfl : k = z + 1 - a := by omega
              by_cases hcz : ck = z + 1
              · go_wp2_with fail
                go_loopg [78] (d - z) (fun g i wr => ∃ k : Nat, g + k = d - z ∧ i = .int .i64 k ∧ allGe j kp (z + 1) k = true ∧ W = wr)
                case atStart => exact ⟨0, by omega, rfl, rfl, rfl⟩
                case round =>
                  obtain ⟨k, hk, rfl, hall, rfl⟩ := hrel
                  have HA2 := Lib.hid hall
                  clear hall
                  by_cases hlt2 : k < d - z
                  · exfalso; omega
                  · obtain rfl : k = d - z := by omega
                    go_wp2_with fail
                    go_ret
                    exact ⟨by rw [HS.out.1, HA.out, HA2.out]; rfl, hsw ▸ HS.out.2.1⟩
              · go_wp2_with fail
                go_loopg [78] (d - z) (fun g i wr => ∃ k : Nat, g + k = d - z ∧ i = .int .i64 k ∧ allGe j kp (z + 1) k = true ∧ W = wr)
                case atStart => exact ⟨0, by omega, rfl, rfl, rfl⟩
                case round =>
                  obtain ⟨k, hk, rfl, hall, rfl⟩ := hrel
                  have HA2 := Lib.hid hall
                  clear hall
                  by_cases hlt2 : k < d - z
                  · have c1 : W.cell? ⟨b2, o2 + (z + 1) + k, none⟩ = some (.int .i64 (kp.getD (z + 1 + k) 0)) := by rw [Nat.add_assoc]; exact HS.out.2.2.2 (z + 1 + k) (by omega)
                    obtain ⟨x, hx⟩ : ∃ x, x = kp.getD (z + 1 + k) 0 := ⟨_, rfl⟩
                    rw [← hx] at c1
                    have HX := Lib.hid hx
                    clear hx
                    by_cases hxu : x < (j : Int)
                    · go_wp2_with fail
                      go_ret
                      refine ⟨?_, hsw ▸ HS.out.2.1⟩
                      rw [HS.out.1, allGe_false (xs := kp) (a := z + 1) (k := k) (by rw [← HX.out]; omega) hlt2, Bool.and_false]; rfl
                    · go_wp2_with fail
                      go_roundg (gk - 1)
                      case measure => omega
                      case rel => exact ⟨k + 1, by omega, by go_num, allGe_succ HA2.out (by rw [← HX.out]; omega), rfl⟩
                  · obtain rfl : k = d - z := by omega
                    go_wp2_with fail
                    go_ret
                    exact ⟨by rw [HS.out.1, HA.out, HA2.out]; rfl, hsw ▸ HS.out.2.1⟩
        · have d4 : (hi - lo + 1 != h) = true := by simp [g4]
          go_enter Try.func85, Try.ntmps85
          go_upto_region 1 with fail
          go_quiet (fail)
          go_wp2_with fail
          go_ret
          exact ⟨by rw [showsS, if_pos (.inr (.inr (.inr (by rw [← hH.out]; exact g4))))]; rfl, below_drewN (b0 _ _) _⟩
end Go.Proofs.Ytfmhlnfcbbpfeaa
/- restrict.Witness, restrict.Shows -/
namespace Go.Proofs.Ytfmhlnfcbbpfeaa
open Go Go.RowKit Sp

/-- the last days that show the step -/
def wit (p : Pol) (days kp : List Int) (day step : Int) : Nat → Option (Int × Int)
  | 0 => none
  | n + 1 => if showsS p days kp day step ((n : Int) - p.hold + 1) n then some ((n : Int) - p.hold + 1, (n : Int)) else wit p days kp day step n
theorem span_cells {w : World} {b : Nat} {x y : Value} {t : TypeId} (hh : w.heap[b]? = some (.cells #[x, y] t)) (u v : Value) : ((w.setCell ⟨b, 0, none⟩ u).setCell ⟨b, 1, none⟩ v).heap[b]? = some (.cells #[u, v] t) := heap_set (heap_set hh 0 u) 1 v

def witR (p : Pol) (days : List Int) (day : Int) : Int × (Int × Int) :=
  if startS p days ≠ 0 then (startS p days, 0, 0)
  else if !within day 0 ((days.length : Int) - 1) then (6, 0, 0)
  else if (decidedS p days).getD day.toNat 0 = 0 then ((4 : Int), (0 : Int), (0 : Int))
  else match wit p days (keptS p days) day ((decidedS p days).getD day.toNat 0) (day.toNat + 1) with
    | some s => (0, s)
    | none => (4, 0, 0)
theorem wit_start {p : Pol} {days : List Int} {day : Int} (h : startS p days ≠ 0) : witR p days day = (startS p days, 0, 0) := by unfold witR; rw [if_pos h]
theorem wit_day {p : Pol} {days : List Int} {day : Int} (h : startS p days = 0) (h1 : within day 0 ((days.length : Int) - 1) = false) : witR p days day = (6, 0, 0) := by unfold witR; rw [if_neg (fun f => f h), h1]; rfl
theorem wit_go {p : Pol} {days : List Int} {day : Int} (h : startS p days = 0) (h1 : within day 0 ((days.length : Int) - 1) = true) : witR p days day = if (decidedS p days).getD day.toNat 0 = 0 then ((4 : Int), (0 : Int), (0 : Int))
  else match wit p days (keptS p days) day ((decidedS p days).getD day.toNat 0) (day.toNat + 1) with
    | some s => (0, s)
    | none => (4, 0, 0) := by unfold witR; rw [if_neg (fun f => f h), h1]; rfl

def WitPost (w : World) (p : Pol) (days : List Int) (day : Int) (e : Ending) (w' : World) : Prop :=
  e = .returned (.tuple #[.agg #[.int .i64 (witR p days day).2.1, .int .i64 (witR p days day).2.2], .int .i64 (witR p days day).1]) ∧ Below w.heap.size w w'

structure WitS where
  g : Nat
  o : Nat
  c1 : Nat
  A2 : Option Addr
  c2 : Nat
  q2 : List Nat
set_option linter.unusedVariables false
def WtV (W0 : World) (pb : Nat) (A : Option Addr) (n c d j : Nat) (kp : List Int) (s : WitS) : Nat → Value → Prop
  | 0, v => v = .agg #[.pointer (some ⟨pb, 0, none⟩)]
  | 1, v => v = .slice A n c
  | 2, v => v = .slice (some ⟨s.g, s.o, none⟩) n s.c1
  | 3, v => v = .int .i64 d
  | 4, v => v = .pointer (some ⟨s.g, s.o + d, none⟩)
  | 5, v => v = .int .i64 j
  | 6, v => v = .agg #[.pointer (some ⟨pb, 0, none⟩)]
  | 7, v => v = .slice A n c
  | 8, v => v = .slice s.A2 n s.c2
  | 9, v => v = .int .i64 j
  | 10, v => v = .slice s.A2 n s.c2
  | _, _ => True
def WtW (W0 : World) (pb : Nat) (A : Option Addr) (n c d j : Nat) (kp : List Int) (s : WitS) (l : Nat → Bool) (w : World) : Prop := Below W0.heap.size W0 w ∧ (l 2 = true → w.cell? ⟨s.g, s.o + d, none⟩ = some (.int .i64 j)) ∧ (l 8 = true → OwnA w 3 s.A2 n s.c2 (ints kp) s.q2)

set_option maxRecDepth 100000 in
set_option maxHeartbeats 4000000 in
theorem Witness_any (As : Option Addr) (cs : Nat) (p : Pol) (A : Option Addr) (c : Nat) (days : List Int) (day : Int) (w : World) (hp : PolV w As cs p) (hr : Rd w 1 A days.length (ints days)) (hcc : days.length ≤ c ∧ c ≤ 9223372036854775807) :
    Calls Try.prog 18 #[.agg #[.slice As p.steps.length cs, .int .i64 p.hold, .int .i64 p.calm, .int .i64 p.notice, .int .i64 p.grace], .slice A days.length c, .int .i64 day] w (WitPost w p days day) := by
  have hm : days.length ≤ 9223372036854775807 := by omega
  obtain ⟨er, her⟩ : ∃ er, er = startS p days := ⟨_, rfl⟩
  have b0 : ∀ o o', Below w.heap.size w ((w.alloc o).alloc o') := fun o o' => ((Below.refl _ _).alloc (Nat.le_refl _) _).alloc (by simp) _
  have hst : Calls Try.prog 74 #[.agg #[.slice As p.steps.length cs, .int .i64 p.hold, .int .i64 p.calm, .int .i64 p.notice, .int .i64 p.grace], .slice A days.length c]
      ((w.alloc (.cells #[.slice As p.steps.length cs, .int .i64 p.hold, .int .i64 p.calm, .int .i64 p.notice, .int .i64 p.grace] 25)).alloc (.cells #[.int .i64 0, .int .i64 0] 42))
      fun e w1 => ∃ pp, e = .returned (.tuple #[.agg #[.pointer pp], .int .i64 er]) ∧ Below w.heap.size w w1 ∧ (er = 0 → ∃ pb, pp = some ⟨pb, 0, none⟩ ∧ PolAt w1 pb p) ∧
        w1.cell? ⟨w.heap.size + 1, 0, none⟩ = some (.int .i64 0) ∧ w1.cell? ⟨w.heap.size + 1, 1, none⟩ = some (.int .i64 0) ∧ w1.frozen? ⟨w.heap.size + 1, 0, none⟩ = false ∧ w1.frozen? ⟨w.heap.size + 1, 1, none⟩ = false ∧ w.heap.size + 1 < w1.heap.size ∧ w1.heap[w.heap.size + 1]? = some (.cells #[.int .i64 0, .int .i64 0] 42) := by
    refine (start_any As cs p A c days _ ⟨hp.1, hp.2.1, hp.2.2.below (b0 _ _)⟩ (hr.below (b0 _ _)) hm).mono ?_
    rintro e w1 ⟨pp, rfl, hB, h0, _⟩
    have hh : w1.heap[w.heap.size + 1]? = some (.cells #[.int .i64 0, .int .i64 0] 42) := by
      rw [hB.block _ (by simp)]
      have := heap_alloc_new (w.alloc (.cells #[.slice As p.steps.length cs, .int .i64 p.hold, .int .i64 p.calm, .int .i64 p.notice, .int .i64 p.grace] 25)) (.cells #[.int .i64 0, .int .i64 0] 42)
      rw [World.size_alloc] at this
      exact this
    exact ⟨pp, by rw [her], (b0 _ _).trans (hB.mono (by simp; omega)), fun h => h0 (her.symm.trans h), (cell_of_heap hh 0).trans rfl, (cell_of_heap hh 1).trans rfl, frozen_of_heap hh 0, frozen_of_heap hh 1, by have := hB.size; simp at this; omega, hh⟩
  have HP := Lib.hid (And.intro her (And.intro hr hst))
  clear her hst b0 hr hp
  by_cases h0 : er = 0
  · subst h0
    have hs0 : startS p days = 0 := HP.out.1.symm
    obtain ⟨hck, hl4, _⟩ := start_ok hs0
    have HC := Lib.hid (check_ok hck)
    have hne : ((0 : Int) != 0) = false := rfl
    have HK := Lib.hid hs0
    clear hs0 hck
    obtain ⟨dr, hdr⟩ : ∃ dr, dr = within day 0 ((days.length : Int) - 1) := ⟨_, rfl⟩
    have hin : ∀ wx, Calls Try.prog 76 #[.int .i64 day, .int .i64 0, .int .i64 ((days.length : Int) - 1)] wx fun e w' => e = .returned (.bool dr) ∧ wx = w' := fun wx => by rw [hdr]; exact within_any day 0 _ wx
    have HD := Lib.hid (And.intro hdr hin)
    clear hdr hin
    cases dr
    · go_enter Try.func18, Try.ntmps18
      go_wp2_with fail
      refine HP.out.2.2.mono ?_
      rintro e w1 ⟨pp, rfl, hB, _, f1, f2, f3, f4, z1, hh⟩
      have HB := Lib.hid hB
      clear hB
      go_wp2_with (go_at_call 76; refine (HD.out.2 _).mono ?_; rintro e w2 ⟨rfl, rfl⟩)
      have k0 := fun o => cell_of_heap (heap_alloc' (span_cells hh (.int .i64 0) (.int .i64 0)) o) 0
      have k1 := fun o => cell_of_heap (heap_alloc' (span_cells hh (.int .i64 0) (.int .i64 0)) o) 1
      refine bodyPost_ret (v := .tuple #[.agg #[.int .i64 0, .int .i64 0], .int .i64 6]) (by simp [results, Try.results18, go_sem, k0, k1]) rfl ?_
      refine ⟨by rw [wit_day HK.out HD.out.1.symm], ?_⟩
      exact ((HB.out.setCell (by simp) _).setCell (by simp) _).alloc (by simpa using HB.out.size) _
    · have hlt : 0 ≤ day ∧ day < days.length := by have := HD.out.1; simp [within] at this; omega
      obtain ⟨d, rfl⟩ : ∃ k : Nat, day = k := ⟨day.toNat, by omega⟩
      have hdl : d < days.length := by omega
      have hdI : (0 : Int) ≤ (d : Int) ∧ (d : Int) < (days.length : Int) := hlt
      clear hlt
      go_enter Try.func18, Try.ntmps18
      go_wp2_with fail
      refine HP.out.2.2.mono ?_
      rintro e w1 ⟨pp, rfl, hB, h0, f1, f2, f3, f4, z1, hh⟩
      obtain ⟨pb, rfl, hpol⟩ := h0 trivial
      obtain ⟨W, hW⟩ : ∃ W, W = w1.alloc (.cells #[.pointer (some ⟨pb, 0, none⟩)] 143) := ⟨_, rfl⟩
      have e8 : W.cell? ⟨w1.heap.size, 0, none⟩ = some (.pointer (some ⟨pb, 0, none⟩)) := by rw [hW]; exact cell_new_one _ _ _
      have bW : Below w.heap.size w W := by rw [hW]; exact hB.alloc hB.size _
      have pW : PolAt W pb p := by rw [hW]; exact hpol.below ((Below.refl _ _).alloc (Nat.le_refl _) _)
      have zW : w1.heap.size < W.heap.size := by rw [hW]; simp
      have hhW : W.heap[w.heap.size + 1]? = some (.cells #[.int .i64 0, .int .i64 0] 42) := by rw [hW]; exact heap_alloc' hh _
      clear hB h0 f1 f2 f3 f4 hpol hh
      go_upto_region 6 with (go_at_call 76; refine (HD.out.2 _).mono ?_; rintro e w2 ⟨rfl, rfl⟩)
      rw [← hW]
      generalize hs1 : w1.heap.size = s1 at e8 zW ⊢
      have HW := Lib.hid (And.intro bW (And.intro pW (And.intro (HP.out.2.1.below bW) hhW)))
      have z1' : w.heap.size + 1 < s1 := by omega
      clear hW bW pW hhW HP hs1 z1
      obtain ⟨j, hj⟩ : ∃ j : Nat, (decidedS p days).getD d 0 = (j : Int) := ⟨((decidedS p days).getD d 0).toNat, by have := getD_all (decidedS_range HC.out.1 days) (isStep_zero HC.out.1) d; have := this.1; omega⟩
      have hjl : j < p.steps.length := by have := getD_all (decidedS_range HC.out.1 days) (isStep_zero HC.out.1) d; rw [hj] at this; have := this.2; omega
      have HJ := Lib.hid (And.intro hj hjl)
      clear hj hjl
      refine wp_region_steps (σ := WitS) (by kernel_rfl) (by kernel_rfl) (fun sg jx vx _ => WtV W pb A days.length c d j (keptS p days) sg jx vx) (fun sg ly wx => WtW W pb A days.length c d j (keptS p days) sg ly wx) ⟨0, 0, 0, none, 0, []⟩ ?_ ?_ ?_
      · exact ⟨(Below.refl _ _).drew, fun h => by simp at h, fun h => by simp at h⟩
      · simp only [AllFrom, Nat.zero_add, Nat.reduceAdd]
        refine ⟨?_, ?_, ?_, ?_, ?_, ?_, ?_, ?_, ?_, ?_, ?_, trivial⟩
        · refine step_pure fun sg ly a wr hl hd hW hF => ?_
          have et8 := hF.old 8 (by kernel_rfl)
          simp [Act.eval] at et8
          have c8 := (hW.1.cell (p := ⟨s1, 0, none⟩) zW).trans e8
          exact ⟨by simpa [WtW, upd] using hW, .agg #[.pointer (some ⟨pb, 0, none⟩)], by go_simp, rfl⟩
        · refine step_pure fun sg ly a wr hl hd hW hF => ?_
          have et1 := hF.old 1 (by kernel_rfl)
          simp [Act.eval] at et1
          exact ⟨by simpa [WtW, upd] using hW, .slice A days.length c, by go_simp, rfl⟩
        · refine step_call fun sg ly a wr hl hd hW hF => ?_
          simp [Region.binds] at hd
          have et33 := hF.new 0 33 (by simp [hd]) rfl
          simp [WtV, Act.eval] at et33
          have et34 := hF.new 1 34 (by simp [hd]) rfl
          simp [WtV, Act.eval] at et34
          have n4 := hF.notYet 2 4 hl (by kernel_rfl)
          refine ⟨83, #[.agg #[.pointer (some ⟨pb, 0, none⟩)], .slice A days.length c], by go_simp, ?_⟩
          refine (decided_any pb p A c days wr (HW.out.2.1.below hW.1) ⟨HC.out.2.2.1, by have := HC.out.2.2.2.1; omega⟩ ⟨HC.out.2.2.2.2.1, by have := HC.out.2.2.2.2.2.1; omega⟩ (HW.out.2.2.1.below hW.1) (by omega)).mono ?_
          rintro e w2 ⟨A1, c1, q1, rfl, o1, n1, b1⟩
          obtain ⟨g1, o1', rfl, _, _, hc1, _⟩ := o1.some_ (by omega)
          have c1d := hc1 d (.int .i64 j) (by rw [← HJ.out.1]; exact ints_get (by rw [decidedS_length]; exact hdl))
          refine ⟨_, { sg with g := g1, o := o1', c1 := c1 }, rfl, ⟨hW.1.trans (b1.mono hW.1.size), fun _ => c1d, fun h8 => (hW.2.2 (by simpa [upd] using h8)).keepS (Keep.of_below (S := []) b1) (by simp)⟩, rfl, ?_⟩
          intro i u hi h
          have i2 : i ≠ 2 := by rintro rfl; rw [hl] at hi; cases hi
          have i4 : i ≠ 4 := by rintro rfl; rw [n4] at hi; cases hi
          unfold WtV at h ⊢
          split at h <;> first | exact h | exact absurd rfl i2 | exact absurd rfl i4
        · refine step_pure fun sg ly a wr hl hd hW hF => ?_
          have et2 := hF.old 2 (by kernel_rfl)
          simp [Act.eval] at et2
          exact ⟨by simpa [WtW, upd] using hW, .int .i64 d, by go_simp, rfl⟩
        · refine step_pure fun sg ly a wr hl hd hW hF => ?_
          simp [Region.binds] at hd
          have et35 := hF.new 2 35 (by simp [hd]) rfl
          simp [WtV, Act.eval] at et35
          have et36 := hF.new 3 36 (by simp [hd]) rfl
          simp [WtV, Act.eval] at et36
          exact ⟨by simpa [WtW, upd] using hW, .pointer (some ⟨sg.g, sg.o + d, none⟩), by go_simp, rfl⟩
        · refine step_pure fun sg ly a wr hl hd hW hF => ?_
          simp [Region.binds] at hd
          have et37 := hF.new 4 37 (by simp [hd]) rfl
          simp [WtV, Act.eval] at et37
          have y2 := hF.before 2 4 (by simp [hd]) (by kernel_rfl)
          have c1d := hW.2.1 y2
          exact ⟨by simpa [WtW, upd] using hW, .int .i64 j, by go_simp, rfl⟩
        · refine step_pure fun sg ly a wr hl hd hW hF => ?_
          have et8 := hF.old 8 (by kernel_rfl)
          simp [Act.eval] at et8
          have c8 := (hW.1.cell (p := ⟨s1, 0, none⟩) zW).trans e8
          exact ⟨by simpa [WtW, upd] using hW, .agg #[.pointer (some ⟨pb, 0, none⟩)], by go_simp, rfl⟩
        · refine step_pure fun sg ly a wr hl hd hW hF => ?_
          have et1 := hF.old 1 (by kernel_rfl)
          simp [Act.eval] at et1
          exact ⟨by simpa [WtW, upd] using hW, .slice A days.length c, by go_simp, rfl⟩
        · refine step_call fun sg ly a wr hl hd hW hF => ?_
          simp [Region.binds] at hd
          have et39 := hF.new 6 39 (by simp [hd]) rfl
          simp [WtV, Act.eval] at et39
          have et40 := hF.new 7 40 (by simp [hd]) rfl
          simp [WtV, Act.eval] at et40
          have n10 := hF.notYet 8 10 hl (by kernel_rfl)
          refine ⟨84, #[.agg #[.pointer (some ⟨pb, 0, none⟩)], .slice A days.length c], by go_simp, ?_⟩
          refine (kept_any pb p A c days wr (HW.out.2.1.below hW.1) ⟨HC.out.2.2.2.2.1, by have := HC.out.2.2.2.2.2.1; omega⟩ (HW.out.2.2.1.below hW.1) (by omega)).mono ?_
          rintro e w3 ⟨A2, c2, q2, rfl, o2, n2, b2⟩
          refine ⟨_, { sg with A2 := A2, c2 := c2, q2 := q2 }, rfl, ⟨hW.1.trans (b2.mono hW.1.size), fun h2 => (b2.cell (World.block_lt_of_cell? _ _ (hW.2.1 (by simpa [upd] using h2)))).trans (hW.2.1 (by simpa [upd] using h2)), fun _ => o2⟩, rfl, ?_⟩
          intro i u hi h
          have i8 : i ≠ 8 := by rintro rfl; rw [hl] at hi; cases hi
          have i10 : i ≠ 10 := by rintro rfl; rw [n10] at hi; cases hi
          unfold WtV at h ⊢
          split at h <;> first | exact h | exact absurd rfl i8 | exact absurd rfl i10
        · refine step_pure fun sg ly a wr hl hd hW hF => ?_
          simp [Region.binds] at hd
          have et38 := hF.new 5 38 (by simp [hd]) rfl
          simp [WtV, Act.eval] at et38
          exact ⟨by simpa [WtW, upd] using hW, .int .i64 j, by go_simp, rfl⟩
        · refine step_pure fun sg ly a wr hl hd hW hF => ?_
          simp [Region.binds] at hd
          have et41 := hF.new 8 41 (by simp [hd]) rfl
          simp [WtV, Act.eval] at et41
          exact ⟨by simpa [WtW, upd] using hW, .slice sg.A2 days.length sg.c2, by go_simp, rfl⟩
      intro sg a w3 hW hF
      have v10 := hF.new 9 10 rfl rfl
      have v11 := hF.new 10 11 rfl rfl
      simp only [WtV] at v10 v11
      obtain ⟨f, hf, rfl⟩ := hF.lit
      have f10 := (hf 10).trans v10
      have f11 := (hf 11).trans v11
      obtain ⟨b3, _, hown⟩ := hW
      have o2 := hown rfl
      obtain ⟨A2, hA2⟩ : ∃ A2, A2 = sg.A2 := ⟨_, rfl⟩
      obtain ⟨c2, hc2⟩ : ∃ c2, c2 = sg.c2 := ⟨_, rfl⟩
      rw [← hA2, ← hc2] at o2 f11
      have e83 : w3.cell? ⟨s1, 0, none⟩ = some (.pointer (some ⟨pb, 0, none⟩)) := (b3.cell (p := ⟨s1, 0, none⟩) zW).trans e8
      simp only [List.filterMap, List.foldl, List.setIfInBounds_toArray, List.set_cons_succ, List.set_cons_zero]
      rw [f10, f11]
      have B2 := Lib.hid o2
      clear hf hF v10 v11 f10 f11 hA2 hc2 o2 hown
      all_goals
        have hh3 : w3.heap[w.heap.size + 1]? = some (.cells #[.int .i64 0, .int .i64 0] 42) := (b3.block _ (by omega)).trans HW.out.2.2.2
        have p3 : PolAt w3 pb p := HW.out.2.1.below b3
        have r3 : Rd w3 1 A days.length (ints days) := HW.out.2.2.1.below b3
        have bw3 : Below w.heap.size w w3 := HW.out.1.trans (b3.mono HW.out.1.size)
        have z3 : s1 < w3.heap.size := Nat.lt_of_lt_of_le zW b3.size
        have H3 := Lib.hid (And.intro hh3 (And.intro p3 (And.intro r3 (And.intro bw3 B2.out))))
        clear b3 p3 r3 bw3 B2 e8 HW zW
        by_cases hj0 : j = 0
        · subst hj0
          have f3 := frozen_of_heap hh3 0
          have f4 := frozen_of_heap hh3 1
          have f1 : w3.cell? ⟨w.heap.size + 1, 0, none⟩ = some (.int .i64 0) := (cell_of_heap hh3 0).trans rfl
          have f2 : w3.cell? ⟨w.heap.size + 1, 1, none⟩ = some (.int .i64 0) := (cell_of_heap hh3 1).trans rfl
          clear hh3
          go_wp2_with fail
          have k0 := cell_of_heap (span_cells H3.out.1 (.int .i64 0) (.int .i64 0)) 0
          have k1 := cell_of_heap (span_cells H3.out.1 (.int .i64 0) (.int .i64 0)) 1
          refine bodyPost_ret (v := .tuple #[.agg #[.int .i64 0, .int .i64 0], .int .i64 4]) (by simp [results, Try.results18, go_sem, k0, k1]) rfl ?_
          refine ⟨by rw [wit_go HK.out HD.out.1.symm, Int.toNat_natCast, HJ.out.1]; rfl, ?_⟩
          exact (H3.out.2.2.2.1.setCell (by simp) _).setCell (by simp) _
        · have hj1 : ((j : Int) == 0) = false := by simp; omega
          clear hh3
          obtain ⟨h, hh1⟩ : ∃ h, h = p.hold := ⟨_, rfl⟩
          have hhb : 1 ≤ h ∧ h ≤ 30 := by rw [hh1]; exact ⟨HC.out.2.2.1, HC.out.2.2.2.1⟩
          have g1' : w3.cell? ⟨pb, 1, none⟩ = some (.int .i64 h) := by obtain ⟨Ap, cp, hh, _⟩ := H3.out.2.1; rw [cell_of_heap hh, hh1]; rfl
          have zp : pb < w3.heap.size := by obtain ⟨Ap, cp, hh, _⟩ := H3.out.2.1; exact heap_lt hh
          have HH := Lib.hid hh1
          clear hh1
          go_wp2_with fail
          go_loopg [12] (d + 1) (fun g l wr => ∃ v : Int, l = .int .i64 v ∧ v = (g : Int) - 1 ∧ g ≤ d + 1 ∧ wit p days (keptS p days) d j (d + 1) = wit p days (keptS p days) d j g ∧ Below w3.heap.size w3 wr)
          case atStart => exact ⟨d, rfl, by omega, by omega, rfl, Below.refl _ _⟩
          case round =>
            obtain ⟨v, rfl, hv, hgd, hwt, hB⟩ := hrel
            have hsz := hB.size
            have zz : w.heap.size + 1 < wr.heap.size := by omega
            have HB := Lib.hid (And.intro hwt hB)
            clear hwt hB
            cases gk with
            | zero =>
              obtain rfl : v = -1 := by omega
              clear hv hgd
              have hh4 : wr.heap[w.heap.size + 1]? = some (.cells #[.int .i64 0, .int .i64 0] 42) := (HB.out.2.block _ (by omega)).trans H3.out.1
              have f3 := frozen_of_heap hh4 0
              have f4 := frozen_of_heap hh4 1
              have f1 : wr.cell? ⟨w.heap.size + 1, 0, none⟩ = some (.int .i64 0) := (cell_of_heap hh4 0).trans rfl
              have f2 : wr.cell? ⟨w.heap.size + 1, 1, none⟩ = some (.int .i64 0) := (cell_of_heap hh4 1).trans rfl
              have k0 := cell_of_heap (span_cells hh4 (.int .i64 0) (.int .i64 0)) 0
              have k1 := cell_of_heap (span_cells hh4 (.int .i64 0) (.int .i64 0)) 1
              have HK0 := Lib.hid (And.intro k0 k1)
              clear hh4 k0 k1
              go_wp2_with fail
              have k0 := HK0.out.1
              have k1 := HK0.out.2
              refine bodyPost_ret (v := .tuple #[.agg #[.int .i64 0, .int .i64 0], .int .i64 4]) (by simp [results, Try.results18, go_sem, k0, k1]) rfl ?_
              refine ⟨by rw [wit_go HK.out HD.out.1.symm, Int.toNat_natCast, HJ.out.1, if_neg (by omega), HB.out.1]; rfl, ?_⟩
              exact ((H3.out.2.2.2.1.trans (HB.out.2.mono H3.out.2.2.2.1.size)).setCell (by simp) _).setCell (by simp) _
            | succ n =>
              obtain rfl : v = (n : Int) := by omega
              have c1 := (HB.out.2.cell (p := ⟨s1, 0, none⟩) z3).trans e83
              have c2' := (HB.out.2.cell (p := ⟨pb, 1, none⟩) zp).trans g1'
              clear hv
              have zs : s1 < wr.heap.size := by omega
              have hnd : (0 : Int) ≤ (n : Int) ∧ (n : Int) ≤ 400 := by omega
              obtain ⟨r, hr⟩ : ∃ r, r = showsS p days (keptS p days) d j ((n : Int) - h + 1) n := ⟨_, rfl⟩
              have hsh : Calls Try.prog 85 #[.agg #[.pointer (some ⟨pb, 0, none⟩)], .slice A days.length c, .slice A2 days.length c2, .int .i64 d, .int .i64 j, .agg #[.int .i64 ((n : Int) - h + 1), .int .i64 n]] (wr.alloc (.cells #[.int .i64 ((n : Int) - h + 1), .int .i64 n] 42))
                  fun e w' => e = .returned (.bool r) ∧ Below wr.heap.size wr w' ∧ w'.cell? ⟨wr.heap.size, 0, none⟩ = some (.int .i64 ((n : Int) - h + 1)) ∧ w'.cell? ⟨wr.heap.size, 1, none⟩ = some (.int .i64 n) ∧ w'.cell? ⟨w.heap.size + 1, 0, none⟩ = some (.int .i64 0) ∧ w'.cell? ⟨w.heap.size + 1, 1, none⟩ = some (.int .i64 0) ∧ w'.frozen? ⟨w.heap.size + 1, 0, none⟩ = false ∧ w'.frozen? ⟨w.heap.size + 1, 1, none⟩ = false ∧ w'.heap[w.heap.size + 1]? = some (.cells #[.int .i64 0, .int .i64 0] 42) := by
                have bk : Below w3.heap.size w3 (wr.alloc (.cells #[.int .i64 ((n : Int) - h + 1), .int .i64 n] 42)) := HB.out.2.alloc hsz _
                refine (shows_any pb p A c days A2 c2 (keptS p days) d j ((n : Int) - h + 1) n _ (H3.out.2.1.below bk) ⟨HC.out.2.2.1, by have := HC.out.2.2.2.1; omega⟩ (H3.out.2.2.1.below bk) hcc (H3.out.2.2.2.2.rd.below bk) ⟨H3.out.2.2.2.2.ge, H3.out.2.2.2.2.cap⟩ (by omega) hdl HJ.out.2 (by omega)).mono ?_
                rintro e w4 ⟨rfl, b4⟩
                have bb : Below wr.heap.size wr w4 := ((Below.refl _ _).alloc (Nat.le_refl _) _).trans (b4.mono (by simp))
                have hh4 : w4.heap[w.heap.size + 1]? = some (.cells #[.int .i64 0, .int .i64 0] 42) := (bb.block _ (by omega)).trans ((HB.out.2.block _ (by omega)).trans H3.out.1)
                refine ⟨by rw [hr], bb, ?_, ?_, (cell_of_heap hh4 0).trans rfl, (cell_of_heap hh4 1).trans rfl, frozen_of_heap hh4 0, frozen_of_heap hh4 1, hh4⟩
                · rw [b4.cell (p := ⟨wr.heap.size, 0, none⟩) (by simp), World.cell?_alloc_new]; rfl
                · rw [b4.cell (p := ⟨wr.heap.size, 1, none⟩) (by simp), World.cell?_alloc_new]; rfl
              have HS := Lib.hid (And.intro hr hsh)
              clear hr hsh
              cases r
              · go_wp2_with (go_at_call 85; refine HS.out.2.mono ?_; rintro e w4 ⟨rfl, b4, _⟩; have HB4 := Lib.hid b4; clear b4)
                go_roundg n
                case measure => omega
                case rel =>
                  refine ⟨(n : Int) - 1, by go_num, rfl, by omega, ?_, HB.out.2.trans (HB4.out.mono hsz)⟩
                  rw [HB.out.1, wit, ← HH.out, ← HS.out.1]; rfl
              · go_wp2_with (go_at_call 85; refine HS.out.2.mono ?_; rintro e w4 ⟨rfl, b4, m0, m1, f1, f2, f3, f4, hh4⟩; have HB4 := Lib.hid (And.intro b4 hh4); clear b4 hh4)
                have k0 := cell_of_heap (span_cells HB4.out.2 (.int .i64 ((n : Int) - h + 1)) (.int .i64 n)) 0
                have k1 := cell_of_heap (span_cells HB4.out.2 (.int .i64 ((n : Int) - h + 1)) (.int .i64 n)) 1
                refine bodyPost_ret (v := .tuple #[.agg #[.int .i64 ((n : Int) - h + 1), .int .i64 n], .int .i64 0]) (by simp [results, Try.results18, go_sem, k0, k1]) rfl ?_
                refine ⟨by rw [wit_go HK.out HD.out.1.symm, Int.toNat_natCast, HJ.out.1, if_neg (by omega), HB.out.1, wit, ← HH.out, ← HS.out.1]; rfl, ?_⟩
                exact ((H3.out.2.2.2.1.trans ((HB.out.2.trans (HB4.out.1.mono hsz)).mono H3.out.2.2.2.1.size)).setCell (by simp) _).setCell (by simp) _
  · have hne : (er != 0) = true := by simp [h0]
    have hs0 : startS p days ≠ 0 := fun h => h0 (HP.out.1.trans h)
    have HK := Lib.hid (And.intro hs0 h0)
    clear hs0 h0
    go_enter Try.func18, Try.ntmps18
    go_wp2_with fail
    refine HP.out.2.2.mono ?_
    rintro e w1 ⟨pp, rfl, hB, _, f1, f2, f3, f4, z1, hh⟩
    have HB := Lib.hid hB
    clear hB
    go_wp2_with fail
    have k0 := fun o => cell_of_heap (heap_alloc' (span_cells hh (.int .i64 0) (.int .i64 0)) o) 0
    have k1 := fun o => cell_of_heap (heap_alloc' (span_cells hh (.int .i64 0) (.int .i64 0)) o) 1
    refine bodyPost_ret (v := .tuple #[.agg #[.int .i64 0, .int .i64 0], .int .i64 er]) (by simp [results, Try.results18, go_sem, k0, k1]) rfl ?_
    refine ⟨by rw [wit_start HK.out.1, ← HP.out.1], ?_⟩
    exact ((HB.out.setCell (by simp) _).setCell (by simp) _).alloc (by simpa using HB.out.size) _
end Go.Proofs.Ytfmhlnfcbbpfeaa
