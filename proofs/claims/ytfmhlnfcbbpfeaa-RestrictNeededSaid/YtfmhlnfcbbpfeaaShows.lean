/- rules.shows -/
import Derived.Test.YtfmhlnfcbbpfeaaReview
namespace Go.Proofs.Ytfmhlnfcbbpfeaa
open Go Go.RowKit Sp

def allGe (m : Int) (xs : List Int) (a : Nat) : Nat → Bool
  | 0 => true
  | n + 1 => allGe m xs a n && decide (m ≤ xs.getD (a + n) 0)
theorem allGe_false {m : Int} {xs : List Int} {a k : Nat} (h : ¬ m ≤ xs.getD (a + k) 0) : ∀ {n}, k < n → allGe m xs a n = false
  | 0, hk => absurd hk (by omega)
  | n + 1, hk => by
    unfold allGe
    by_cases e : k = n
    · subst e; rw [decide_eq_false h, Bool.and_false]
    · rw [allGe_false h (by omega : k < n), Bool.false_and]
theorem allGe_succ {m : Int} {xs : List Int} {a n : Nat} (h : allGe m xs a n = true) (h1 : m ≤ xs.getD (a + n) 0) : allGe m xs a (n + 1) = true := by unfold allGe; rw [h, decide_eq_true h1]; rfl
theorem allGe_iff {m : Int} {xs : List Int} {a n : Nat} : allGe m xs a n = true ↔ ∀ k, k < n → m ≤ xs.getD (a + k) 0 := by
  induction n with
  | zero => simp [allGe]
  | succ n ih =>
    rw [allGe, Bool.and_eq_true, ih, decide_eq_true_iff]
    exact ⟨fun h k hk => by by_cases e : k = n; (subst e; exact h.2); exact h.1 k (by omega), fun h => ⟨fun k hk => h k (by omega), h n (by omega)⟩⟩

def showsS (p : Pol) (days kp : List Int) (day step lo hi : Int) : Bool :=
  if lo < 0 ∨ day < hi ∨ day < lo ∨ hi - lo + 1 ≠ p.hold then false
  else allGe (p.steps.getD step.toNat default).up days lo.toNat (hi + 1 - lo).toNat && allGe step kp (hi + 1).toNat (day - hi).toNat

set_option maxRecDepth 100000 in
set_option maxHeartbeats 2000000 in
theorem shows_any (pb : Nat) (p : Pol) (A : Option Addr) (c : Nat) (days : List Int) (Ak : Option Addr) (ck : Nat) (kp : List Int) (d j : Nat) (lo hi : Int) (w : World) (hp : PolAt w pb p) (hh : 1 ≤ p.hold ∧ p.hold ≤ 1000)
    (hr : Rd w 1 A days.length (ints days)) (hc : days.length ≤ c ∧ c ≤ 9223372036854775807) (hrk : Rd w 1 Ak days.length (ints kp)) (hck : days.length ≤ ck ∧ ck ≤ 9223372036854775807) (hl : days.length ≤ 100000) (hd : d < days.length) (hj : j < p.steps.length) (hhi : -4000000000000000000 ≤ hi) :
    Calls Try.prog 85 #[.agg #[.pointer (some ⟨pb, 0, none⟩)], .slice A days.length c, .slice Ak days.length ck, .int .i64 d, .int .i64 j, .agg #[.int .i64 lo, .int .i64 hi]] w
      fun e w' => e = .returned (.bool (showsS p days kp d j lo hi)) ∧ Below w.heap.size w w' := by
  obtain ⟨b, off, cc, hs0, hbb, hln, hc0, hc1, hc2, hc3⟩ := hp.step hj
  have b0 : ∀ o o', Below w.heap.size w ((w.alloc o).alloc o') := fun o o' => ((Below.refl _ _).alloc (Nat.le_refl _) _).alloc (by simp) _
  obtain ⟨h, hh1⟩ : ∃ h, h = p.hold := ⟨_, rfl⟩
  have hs1 : w.cell? ⟨pb, 1, none⟩ = some (.int .i64 h) := by obtain ⟨Ap, cp, hh, _⟩ := hp; rw [cell_of_heap hh, hh1]; rfl
  have hpb : pb < w.heap.size := by obtain ⟨Ap, cp, hh, _⟩ := hp; exact heap_lt hh
  rw [← hh1] at hh
  have hH := Lib.hid hh1
  clear hh1 hp hc0 hc1 hc3
  by_cases g1 : lo < 0
  · have d1 : decide (lo < 0) = true := by simp [g1]
    go_enter Try.func85, Try.ntmps85
    go_upto_region 1 with fail
    go_quiet (fail)
    go_wp2_with fail
    go_ret
    exact ⟨by rw [showsS, if_pos (.inl g1)]; rfl, below_drewN (b0 _ _) _⟩
  · have d1 : decide (lo < 0) = false := by simp [g1]
    by_cases g2 : (d : Int) < hi
    · have d2 : decide ((d : Int) < hi) = true := by simp [g2]
      go_enter Try.func85, Try.ntmps85
      go_upto_region 1 with fail
      go_quiet (fail)
      go_wp2_with fail
      go_ret
      exact ⟨by rw [showsS, if_pos (.inr (.inl g2))]; rfl, below_drewN (b0 _ _) _⟩
    · have d2 : decide ((d : Int) < hi) = false := by simp [g2]
      by_cases g3 : (d : Int) < lo
      · have d3 : decide ((d : Int) < lo) = true := by simp [g3]
        go_enter Try.func85, Try.ntmps85
        go_upto_region 1 with fail
        go_quiet (fail)
        go_wp2_with fail
        go_ret
        exact ⟨by rw [showsS, if_pos (.inr (.inr (.inl g3)))]; rfl, below_drewN (b0 _ _) _⟩
      · have d3 : decide ((d : Int) < lo) = false := by simp [g3]
        have q1 : (0 : Int) ≤ lo := by omega
        have q2 : lo ≤ (d : Int) := by omega
        have q3 : hi ≤ (d : Int) := by omega
        by_cases g4 : hi - lo + 1 = h
        · have d4 : (hi - lo + 1 != h) = false := by simp [g4]
          obtain ⟨a, rfl⟩ : ∃ a : Nat, lo = a := ⟨lo.toNat, by omega⟩
          obtain ⟨z, rfl⟩ : ∃ z : Nat, hi = z := ⟨hi.toNat, by omega⟩
          obtain ⟨b1, o1, rfl, hb1, hcd⟩ := hr.2 (by omega)
          obtain ⟨b2, o2, rfl, hb2, hck2⟩ := hrk.2 (by omega)
          go_enter Try.func85, Try.ntmps85
          go_upto_region 1 with fail
          go_quiet (fail)
          go_wp2_with fail
          obtain ⟨W, hW⟩ : ∃ W, W = (((w.alloc (Obj.cells #[Value.pointer (some { block := pb, off := 0 })] 143)).alloc (Obj.cells #[Value.int IntKind.i64 ↑a, Value.int IntKind.i64 ↑z] 42)).drewN nq) := ⟨_, rfl⟩
          rw [← hW]
          have bW : Below w.heap.size w W := by rw [hW]; exact below_drewN (b0 _ _) _
          have e0 : W.cell? ⟨w.heap.size, 0, none⟩ = some (.pointer (some ⟨pb, 0, none⟩)) := by
            rw [hW, World.cell?_drewN, World.cell?_alloc_lt _ _ _ (by simp)]; exact cell_new_one _ _ _
          have e1 : W.cell? ⟨w.heap.size + 1, 1, none⟩ = some (.int .i64 z) := by
            rw [hW, World.cell?_drewN]
            have := World.cell?_alloc_new (w.alloc (Obj.cells #[Value.pointer (some { block := pb, off := 0 })] 143)) #[Value.int IntKind.i64 ↑a, Value.int IntKind.i64 ↑z] 42 1
            rw [World.size_alloc] at this
            exact this
          have e2 := (bW.cell (p := ⟨pb, 0, none⟩) hpb).trans hs0
          have e3 := (bW.cell (p := ⟨b, off + j * 4 + 2, none⟩) hbb).trans hc2
          obtain ⟨u, hu⟩ : ∃ u, u = p.steps[j].up := ⟨_, rfl⟩
          rw [← hu] at e3
          have hu' : u = (p.steps.getD j default).up := by rw [hu]; simp [hj]
          have f1 : ∀ k, k < days.length → W.cell? ⟨b1, o1 + k, none⟩ = some (.int .i64 (days.getD k 0)) := fun k hk => (bW.cell (p := ⟨b1, o1 + k, none⟩) hb1).trans (hcd k _ (ints_get hk))
          have hkl : kp.length = days.length := by have := hrk.1; simpa [ints] using this
          have f2 : ∀ k, k < days.length → W.cell? ⟨b2, o2 + k, none⟩ = some (.int .i64 (kp.getD k 0)) := fun k hk => (bW.cell (p := ⟨b2, o2 + k, none⟩) hb2).trans (hck2 k _ (ints_get (by omega)))
          have hsh : showsS p days kp d j a z = (allGe u days a (z + 1 - a) && allGe j kp (z + 1) (d - z)) := by
            rw [showsS, if_neg (by rw [← hH.out]; omega), hu']
            have n1 : ((a : Int)).toNat = a := by omega
            have n2 : ((z : Int) + 1 - (a : Int)).toNat = z + 1 - a := by omega
            have n3 : ((z : Int) + 1).toNat = z + 1 := by omega
            have n4 : ((d : Int) - (z : Int)).toNat = d - z := by omega
            have n5 : ((j : Int)).toNat = j := by omega
            rw [n1, n2, n3, n4, n5]
          have HS := Lib.hid (And.intro hsh (And.intro bW (And.intro f1 f2)))
          have haz : a ≤ z + 1 := by omega
          have hzd : z ≤ d := by omega
          clear hW hu hu' hsh bW f1 f2 hcd hck2 hs0 hc2 b0 hkl hr hrk hb1 hb2 hbb hpb
          generalize hsw : w.heap.size = sw at e0 e1 ⊢
          go_loopg [54] (z + 1 - a) (fun g i wr => ∃ k : Nat, g + k = z + 1 - a ∧ i = .int .i64 k ∧ allGe u days a k = true ∧ W = wr)
          case atStart => exact ⟨0, by omega, rfl, rfl, rfl⟩
          case round =>
            obtain ⟨k, hk, rfl, hall, rfl⟩ := hrel
            have HA := Lib.hid hall
            clear hall
            by_cases hlt : k < z + 1 - a
            · have c1 : W.cell? ⟨b1, o1 + a + k, none⟩ = some (.int .i64 (days.getD (a + k) 0)) := by rw [Nat.add_assoc]; exact HS.out.2.2.1 (a + k) (by omega)
              obtain ⟨x, hx⟩ : ∃ x, x = days.getD (a + k) 0 := ⟨_, rfl⟩
              rw [← hx] at c1
              have HX := Lib.hid hx
              clear hx
              by_cases hxu : x < u
              · go_wp2_with fail
                go_ret
                refine ⟨?_, hsw ▸ HS.out.2.1⟩
                rw [HS.out.1, allGe_false (k := k) (by rw [← HX.out]; omega) hlt]; rfl
              · go_wp2_with fail
                go_roundg (gk - 1)
                case measure => omega
                case rel => exact ⟨k + 1, by omega, by go_num, allGe_succ HA.out (by rw [← HX.out]; omega), rfl⟩
            · obtain rfl : k = z + 1 - a := by omega
              by_cases hcz : ck = z + 1
              · go_wp2_with fail
                go_loopg [78] (d - z) (fun g i wr => ∃ k : Nat, g + k = d - z ∧ i = .int .i64 k ∧ allGe j kp (z + 1) k = true ∧ W = wr)
                case atStart => exact ⟨0, by omega, rfl, rfl, rfl⟩
                case round =>
                  obtain ⟨k, hk, rfl, hall, rfl⟩ := hrel
                  have HA2 := Lib.hid hall
                  clear hall
                  by_cases hlt2 : k < d - z
                  · exfalso; omega
                  · obtain rfl : k = d - z := by omega
                    go_wp2_with fail
                    go_ret
                    exact ⟨by rw [HS.out.1, HA.out, HA2.out]; rfl, hsw ▸ HS.out.2.1⟩
              · go_wp2_with fail
                go_loopg [78] (d - z) (fun g i wr => ∃ k : Nat, g + k = d - z ∧ i = .int .i64 k ∧ allGe j kp (z + 1) k = true ∧ W = wr)
                case atStart => exact ⟨0, by omega, rfl, rfl, rfl⟩
                case round =>
                  obtain ⟨k, hk, rfl, hall, rfl⟩ := hrel
                  have HA2 := Lib.hid hall
                  clear hall
                  by_cases hlt2 : k < d - z
                  · have c1 : W.cell? ⟨b2, o2 + (z + 1) + k, none⟩ = some (.int .i64 (kp.getD (z + 1 + k) 0)) := by rw [Nat.add_assoc]; exact HS.out.2.2.2 (z + 1 + k) (by omega)
                    obtain ⟨x, hx⟩ : ∃ x, x = kp.getD (z + 1 + k) 0 := ⟨_, rfl⟩
                    rw [← hx] at c1
                    have HX := Lib.hid hx
                    clear hx
                    by_cases hxu : x < (j : Int)
                    · go_wp2_with fail
                      go_ret
                      refine ⟨?_, hsw ▸ HS.out.2.1⟩
                      rw [HS.out.1, allGe_false (xs := kp) (a := z + 1) (k := k) (by rw [← HX.out]; omega) hlt2, Bool.and_false]; rfl
                    · go_wp2_with fail
                      go_roundg (gk - 1)
                      case measure => omega
                      case rel => exact ⟨k + 1, by omega, by go_num, allGe_succ HA2.out (by rw [← HX.out]; omega), rfl⟩
                  · obtain rfl : k = d - z := by omega
                    go_wp2_with fail
                    go_ret
                    exact ⟨by rw [HS.out.1, HA.out, HA2.out]; rfl, hsw ▸ HS.out.2.1⟩
        · have d4 : (hi - lo + 1 != h) = true := by simp [g4]
          go_enter Try.func85, Try.ntmps85
          go_upto_region 1 with fail
          go_quiet (fail)
          go_wp2_with fail
          go_ret
          exact ⟨by rw [showsS, if_pos (.inr (.inr (.inr (by rw [← hH.out]; exact g4))))]; rfl, below_drewN (b0 _ _) _⟩
end Go.Proofs.Ytfmhlnfcbbpfeaa
