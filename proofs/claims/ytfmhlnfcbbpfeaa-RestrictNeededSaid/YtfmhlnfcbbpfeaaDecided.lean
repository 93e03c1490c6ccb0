/- rules.decided -/
import Derived.Test.YtfmhlnfcbbpfeaaRules
import Derived.Deep.RegionHeld3
namespace Go.Proofs.Ytfmhlnfcbbpfeaa
open Go Go.RowKit Sp

def decidedPost (w : World) (p : Pol) (days : List Int) (e : Ending) (w' : World) : Prop :=
  ∃ A c q, e = .returned (.slice A days.length c) ∧ OwnA w' 3 A days.length c (ints (decidedS p days)) q ∧ (∀ g ∈ q, w.heap.size ≤ g) ∧ Below w.heap.size w w'

set_option maxHeartbeats 1000000 in
theorem decided_any (pb : Nat) (p : Pol) (A : Option Addr) (c : Nat) (days : List Int) (w : World) (hp : PolAt w pb p) (hh : 1 ≤ p.hold ∧ p.hold ≤ 1000) (hca : 1 ≤ p.calm ∧ p.calm ≤ 1000) (hr : Rd w 1 A days.length (ints days)) (hl : days.length ≤ 100000) :
    Calls Try.prog 83 #[.agg #[.pointer (some ⟨pb, 0, none⟩)], .slice A days.length c] w (decidedPost w p days) := by
  obtain ⟨i0, hi, hz0, hz1, hz2⟩ := info_parts info_int
  have HP := Lib.hid (And.intro hp (And.intro hh (And.intro hca hr)))
  clear hp hh hca hr
  go_enter Try.func83, Try.ntmps83
  go_upto_region 1 with fail
  obtain ⟨W, hW⟩ : ∃ W, W = w.alloc (.cells #[.pointer (some ⟨pb, 0, none⟩)] 143) := ⟨_, rfl⟩
  obtain ⟨bx, hbx⟩ : ∃ bx, bx = w.heap.size := ⟨_, rfl⟩
  have bW : Below w.heap.size w W := by rw [hW]; exact (Below.refl _ _).alloc (Nat.le_refl _) _
  have fb : W.cell? ⟨bx, 0, none⟩ = some (.pointer (some ⟨pb, 0, none⟩)) := by rw [hW, hbx]; simp [World.cell?_alloc_new]
  have PW : PolAt W.drew pb p := HP.out.1.below bW.drew
  have RW : Rd W.drew 1 A days.length (ints days) := HP.out.2.2.2.below bW.drew
  have sW : bx < W.heap.size := by rw [hW, hbx]; simp
  rw [← hW, ← hbx]
  have HB := Lib.hid (And.intro hbx (And.intro bW (And.intro PW RW)))
  clear hW hbx bW PW RW
  go_region_held3 (fun w' => w'.cell? ⟨bx, 0, none⟩ = some (.pointer (some ⟨pb, 0, none⟩))) (first | assumption | simp [*])
    (first
      | (go_at_call 128
         have hc := raised_any pb p A c days W.drew HB.out.2.2.1 HP.out.2.1 HB.out.2.2.2 hl
         refine hc.mono ?_
         rintro e w1 ⟨A1, c1, q1, rfl, o1, n1, b1⟩
         have fb1 : w1.cell? ⟨bx, 0, none⟩ = some (.pointer (some ⟨pb, 0, none⟩)) := (b1.cell (p := ⟨bx, 0, none⟩) sW).trans fb
         have H1 := Lib.hid (And.intro o1 (And.intro n1 b1))
         clear o1 n1 b1 hc)
      | (go_at_call 84
         have hc := kept_any pb p A c days w1 (HB.out.2.2.1.below H1.out.2.2) HP.out.2.2.1 (HB.out.2.2.2.below H1.out.2.2) hl
         refine hc.mono ?_
         rintro e w2 ⟨A2, c2, q2, rfl, o2, n2, b2⟩
         have fb2 : w2.cell? ⟨bx, 0, none⟩ = some (.pointer (some ⟨pb, 0, none⟩)) := (b2.cell (p := ⟨bx, 0, none⟩) (Nat.lt_of_lt_of_le sW H1.out.2.2.size)).trans fb1
         have H2 := Lib.hid (And.intro o2 (And.intro n2 b2))
         clear o2 n2 b2 hc))
  obtain ⟨u, hu⟩ : ∃ u, u = raisedS p days := ⟨_, rfl⟩
  obtain ⟨v, hv⟩ : ∃ v, v = keptS p days := ⟨_, rfl⟩
  have hul : u.length = days.length := by rw [hu, raisedS_length]
  have hvl : v.length = days.length := by rw [hv, keptS_length]
  have R1 : Rd w2 1 A1 days.length (ints u) := by have := H1.out.1.rd.below H2.out.2.2; rwa [← hu] at this
  have R2 : Rd w2 1 A2 days.length (ints v) := by have := H2.out.1.rd; rwa [← hv] at this
  have b2 : Below w.heap.size w w2 := (HB.out.2.1.drew.trans (H1.out.2.2.mono HB.out.2.1.size)).trans (H2.out.2.2.mono (by have := HB.out.2.1.size; have := H1.out.2.2.size; simp at this; omega))
  have HU := Lib.hid (And.intro hu (And.intro hv (And.intro hul (And.intro hvl b2))))
  clear hu hv hul hvl b2 fb2 fb1 fb sW
  go_wp2_with fail
  go_loopw [7, 8, 18] (fun bf o i wr => ∃ (k : Nat) (Ao : Option Addr) (co : Nat) (q : List Nat), k ≤ days.length ∧ i = .int .i64 k ∧ bf = .int .i64 (decN u v k) ∧ o = .slice Ao k co ∧ OwnA wr 3 Ao k co (ints (decL u v k)) q ∧ (∀ g ∈ q, w2.heap.size ≤ g) ∧ Keep [] w2 wr)
    (fun _ _ i _ => days.length - (intOf i).toNat)
  case atStart => exact ⟨0, none, 0, [], Nat.zero_le _, rfl, rfl, rfl, OwnA.nil _ _, by simp, Keep.refl _ _⟩
  case round =>
    obtain ⟨k, Ao, co, q, hk, rfl, rfl, rfl, hown, hq, hK⟩ := hrel
    by_cases hlt : k < days.length
    · obtain ⟨b1, o1, rfl, hb1, hc1⟩ := R1.2 (by omega)
      obtain ⟨b2, o2, rfl, hb2, hc2⟩ := R2.2 (by omega)
      have c1 := hK.cell (hc1 k (.int .i64 (u.getD k 0)) (ints_get (by rw [HU.out.2.2.1]; exact hlt))) (by simp)
      have c2 := hK.cell (hc2 k (.int .i64 (v.getD k 0)) (ints_get (by rw [HU.out.2.2.2.1]; exact hlt))) (by simp)
      generalize hx : u.getD k 0 = x at c1
      generalize hy : v.getD k 0 = y at c2
      generalize hz : decN u v k = z
      have HX := Lib.hid (And.intro hx (And.intro hy hz))
      have HO := Lib.hid (And.intro hown (And.intro hq hK))
      clear hx hy hz hown hq hK hc1 hc2
      go_upto_region 7 with fail
      go_quiet (fail)
      go_upto_region 8 with fail
      generalize hm : (if x < if z < y then z else y then if z < y then z else y else x) = m
      have hm' : m = max x (min y z) := by rw [← hm]; simp only [Int.max_def, Int.min_def]; split <;> split <;> split <;> (try split) <;> omega
      have HM := Lib.hid hm'
      clear hm hm'
      go_wp2_with (at_builtin
                   refine wpList_append_A rfl (.tmp 32) (.tmp 34) 27 rfl i0 _ 8 Try.underlying27 hi hz0 hz1 hz2 rfl (A := Ao) (n := k) (c := co) (xs := ints (decL u v k)) (fp := q) (by simp [Act.eval]) _ (by simp [Act.eval]) (.int .i64 m) (((HO.out.1.drewN _).alloc _)) (cell_new_one _ _ _) rfl (by omega) (by omega) ?_
                   intro g off' c' w3 h1 h2 h3 h4
                   have HQ := Lib.hid (And.intro h1 (And.intro h2 h4))
                   clear h1 h2 h3 h4)
      go_roundw
      case rel =>
        obtain ⟨h1, h2, h4⟩ := HQ.out
        obtain ⟨hown, hq, hK⟩ := HO.out
        obtain ⟨hx, hy, hz⟩ := HX.out
        have hd : decN u v (k + 1) = m := by rw [HM.out, ← hx, ← hy, ← hz]; rfl
        have hkz := hK.size
        refine ⟨k + 1, some ⟨g, off', none⟩, c', [g], by omega, by go_num, by rw [hd], rfl, by rw [decL_succ, hd]; simpa [ints] using h1, ?_, ((hK.drewN _).alloc _).trans h4 (fun y hy => .inr (hq y hy))⟩
        intro y hy
        rw [List.mem_singleton.1 hy]
        rcases h2 with h2 | h2
        · exact hq _ h2
        · simp at h2; omega
      case measure => simp [intOf]; omega
    · obtain rfl : k = days.length := by omega
      go_wp2_with fail
      go_ret
      obtain ⟨hu, hv, hul, hvl, b2⟩ := HU.out
      have hbw := b2.size
      refine ⟨Ao, co, q, rfl, ?_, fun y hy => by have := hq y hy; omega, b2.trans (hK.below (by omega) (by simp))⟩
      rw [decidedS, ← hu, ← hv]
      exact hown
end Go.Proofs.Ytfmhlnfcbbpfeaa
