/- polynyaref09.Check -/
import Derived.Test.YthmldeningpjbaaPFp26
import Derived.Test.YthmldeningpjbaaPFp2
import Derived.Test.YthmldeningpjbaaPFp6
import Derived.Test.YthmldeningpjbaaPFp4
import Derived.Test.YthmldeningpjbaaPFp15
import Derived.BigQuiet
set_option linter.unusedVariables false
set_option linter.unusedSimpArgs false
namespace Go.Proofs.Ythmldeningpjbaa
open Go Go.RowKit Sp Pt
set_option linter.unusedVariables false
set_option linter.unusedSimpArgs false

theorem pathOk_take {n : Int} {l : List Int} {j : Nat} : ∀ m, m ≤ j → pathOk n (l.take j) m = pathOk n l m
  | 0, _ => rfl
  | m + 1, h => by
    have e1 : (l.take j).getD m 0 = l.getD m 0 := by simp [List.getD_eq_getElem?_getD, List.getElem?_take, show m < j from by omega]
    have e2 : (l.take j).take m = l.take m := by rw [List.take_take, Nat.min_eq_left (by omega)]
    rw [pathOk, pathOk, e1, e2, pathOk_take m (by omega)]
theorem path_pre {n : Nat} {l : List Int} {j : Nat} (hj : j ≤ l.length) (h : pathOk n l j = true) : j ≤ n := by
  have e : (l.take j).length = j := by rw [List.length_take]; omega
  have h1 : pathOk n (l.take j) (l.take j).length = true := by rw [e, pathOk_take j (Nat.le_refl _)]; exact h
  have := nodup_range_le (path_ok h1).1 (path_ok h1).2
  omega
theorem checkR_chs {p : Prt} (h1 : within p.chs.length 1 6 = true) (h2 : within p.bts.length 1 4 = true) (h4 : p.chs.all chOk = false) : checkP p = 100 := by
  cases h3 : within p.tugs 0 20
  · exact checkP_2 h1 h2 h3
  · exact checkP_3 h1 h2 h3 h4
theorem checkR_bts {p : Prt} (h1 : within p.chs.length 1 6 = true) (h2 : within p.bts.length 1 4 = true) (h5 : p.bts.all (btOk p.chs.length) = false) : checkP p = 100 := by
  cases h4 : p.chs.all chOk
  · exact checkR_chs h1 h2 h4
  · cases h3 : within p.tugs 0 20
    · exact checkP_2 h1 h2 h3
    · exact checkP_4 h1 h2 h3 h4 h5

set_option maxRecDepth 100000 in
set_option maxHeartbeats 4000000 in
theorem rCheck_any (D : Nat) (Ac : Option Addr) (cc : Nat) (Ab : Option Addr) (cb : Nat) (p : Prt) (w : World) (hp : PrtB D w Ac cc Ab cb p) (hD : D ≤ w.heap.size) :
    Calls Try.prog 51 #[.agg (prtV Ac cc Ab cb p)] w fun e w' => e = .returned (.int .i64 (checkP p)) ∧ Below w.heap.size w w' := by
  obtain ⟨iI, hI0, hI1, hI2, hI3⟩ := info_parts infoKI
  have b0 : Below w.heap.size w (w.alloc (.cells (prtV Ac cc Ab cb p) 79)) := (Below.refl _ _).alloc (Nat.le_refl _) _
  cases h1 : within p.chs.length 1 6
  · go_enter Try.func51, Try.ntmps51
    go_wp2_with (go_at_call 102; refine (rin9_any _ _ _ _).mono ?_; rintro e w' ⟨rfl, rfl⟩)
    go_ret
    exact ⟨by rw [checkP_1 (by rw [h1]; rfl)]; rfl, b0⟩
  cases h2 : within p.bts.length 1 4
  · go_enter Try.func51, Try.ntmps51
    go_wp2_with (go_at_call 102; refine (rin9_any _ _ _ _).mono ?_; rintro e w' ⟨rfl, rfl⟩)
    go_ret
    exact ⟨by rw [checkP_1 (by rw [h1, h2]; rfl)]; rfl, b0⟩
  have hl1 : 1 ≤ p.chs.length ∧ p.chs.length ≤ 6 := by simp [within] at h1; omega
  have hl2 : 1 ≤ p.bts.length ∧ p.bts.length ≤ 4 := by simp [within] at h2; omega
  obtain ⟨bc, oc, rfl, hbc, hcc⟩ := hp.chs.2 (by omega)
  have HP := Lib.hid hp
  have HB := Lib.hid hcc
  clear hp hcc
  go_enter Try.func51, Try.ntmps51
  go_upto_region 3 with (go_at_call 102; refine (rin9_any _ _ _ _).mono ?_; rintro e w' ⟨rfl, rfl⟩)
  obtain ⟨W, hW⟩ : ∃ W, W = w.alloc (.cells (prtV (some ⟨bc, oc, none⟩) cc Ab cb p) 79) := ⟨_, rfl⟩
  obtain ⟨bx, hbx⟩ : ∃ bx, bx = w.heap.size := ⟨_, rfl⟩
  have fp : W.heap[bx]? = some (.cells (prtV (some ⟨bc, oc, none⟩) cc Ab cb p) 79 (0, 0)) := by rw [hW, hbx]; exact heap_alloc_new _ _
  rw [← hW, ← hbx]
  have b1 : Below w.heap.size w W := by rw [hW]; exact b0
  have f0 : W.cell? ⟨bx, 0, none⟩ = some (.slice (some ⟨bc, oc, none⟩) p.chs.length cc) := (cell_of_heap fp 0).trans rfl
  have f1 : W.cell? ⟨bx, 1, none⟩ = some (.slice Ab p.bts.length cb) := (cell_of_heap fp 1).trans rfl
  have f2 : W.cell? ⟨bx, 2, none⟩ = some (.int .i64 p.tugs) := (cell_of_heap fp 2).trans rfl
  have hxW := heap_lt fp
  have HW := Lib.hid (And.intro b1 (And.intro h1 h2))
  clear hW hbx fp b0 b1 h1 h2
  have hbcW : bc < W.heap.size := by have := HW.out.1.size; omega
  go_wp2_with fail
  go_loopg [3] (p.chs.length) (fun g i wr => ∃ k : Nat, g + k = p.chs.length ∧ i = .int .i64 k ∧ (p.chs.take k).all chOk = true ∧ Keep [] W wr)
  case atStart => exact ⟨0, rfl, rfl, by simp, Keep.refl _ _⟩
  case round =>
    obtain ⟨k, hk, rfl, hok, hK⟩ := hrel
    have g0 := hK.cell f0 (by simp)
    have hxr : bx < wr.heap.size := by have := hK.size; omega
    by_cases hlt : k < p.chs.length
    · obtain ⟨s0, s1, s2⟩ := chcs_get hlt
      obtain ⟨x, hx⟩ : ∃ x, x = p.chs[k] := ⟨_, rfl⟩
      rw [← hx] at s0 s1 s2
      have bB : Below w.heap.size w wr := HW.out.1.trans (hK.below HW.out.1.size (by simp))
      have cw : ∀ {o : Nat} {u : Value}, w.cell? ⟨bc, o, none⟩ = some u → wr.cell? ⟨bc, o, none⟩ = some u := fun h => (bB.cell (p := ⟨bc, _, none⟩) (show bc < w.heap.size by omega)).trans h
      have d0 := cw (HB.out _ _ s0)
      have d1 : wr.cell? ⟨bc, oc + k * 3 + 1, none⟩ = some (.int .i64 x.frost) := cw (HB.out _ _ s1)
      have d2 : wr.cell? ⟨bc, oc + k * 3 + 2, none⟩ = some (.int .i64 x.clear) := cw (HB.out _ _ s2)
      have hbl : bc < wr.heap.size := by have := hK.size; omega
      have HI := Lib.hid (And.intro hok (And.intro hK (And.intro bB hx)))
      have n2 : (k : Int) < (p.chs.length : Int) := by omega
      clear s0 s1 s2 hok hK hx bB cw f0 f1 f2
      go_wp2_with (go_at_call 102; refine (rin9_any _ _ _ _).mono ?_; rintro e w' ⟨rfl, rfl⟩)
      any_goals (go_ret; refine ⟨?_, HI.out.2.2.1.alloc HI.out.2.2.1.size _⟩; rw [checkR_chs HW.out.2.1 HW.out.2.2 (all_not hlt (by rw [← HI.out.2.2.2]; simp_all [chOk]))]; rfl)
      go_roundg (gk - 1)
      case measure => omega
      case rel => exact ⟨k + 1, by omega, by go_num, all_take_succ hlt HI.out.1 (by rw [← HI.out.2.2.2]; simp_all [chOk]), HI.out.2.1.alloc _⟩
    · obtain rfl : k = p.chs.length := by omega
      have hal : p.chs.all chOk = true := by rwa [List.take_length] at hok
      have HC := Lib.hid (And.intro hal hK)
      have f1' := hK.cell f1 (by simp)
      have f2' := hK.cell f2 (by simp)
      clear hal hok hK f1 hk f0 f2
      obtain ⟨w1, hw1⟩ : ∃ w1, w1 = wr := ⟨_, rfl⟩
      subst hw1
      go_wp2_with fail
      go_loopg [5] (p.bts.length) (fun g i wq => ∃ k : Nat, g + k = p.bts.length ∧ i = .int .i64 k ∧ (p.bts.take k).all (btOk p.chs.length) = true ∧ Keep [] w1 wq)
      case atStart => exact ⟨0, rfl, rfl, by simp, Keep.refl _ _⟩
      case round =>
        obtain ⟨w2, hw2⟩ : ∃ w2, w2 = wr := ⟨_, rfl⟩
        subst hw2
        obtain ⟨k, hk, rfl, hok, hK⟩ := hrel
        have g1 := hK.cell f1' (by simp)
        have g0' := hK.cell g0 (by simp)
        have g2 := hK.cell f2' (by simp)
        have hxq : bx < w2.heap.size := by have := hK.size; omega
        by_cases hlt : k < p.bts.length
        · obtain ⟨b, off, Ak, ck, hAb, hbD, d1, d2, d3⟩ := HP.out.bts k hlt
          obtain ⟨x, hx⟩ : ∃ x, x = p.bts[k] := ⟨_, rfl⟩
          rw [← hx] at d1 d2 d3
          obtain ⟨dp, pth⟩ := x
          simp only at d1 d2 d3
          have bB : Below w.heap.size w w2 := (HW.out.1.trans (HC.out.2.below HW.out.1.size (by simp))).trans (hK.below (by have := HW.out.1.size; have := HC.out.2.size; omega) (by simp))
          have d1' := (bB.cell (p := ⟨b, off + k * 2, none⟩) (show b < w.heap.size by omega)).trans d1
          have d2' := (bB.cell (p := ⟨b, off + k * 2 + 1, none⟩) (show b < w.heap.size by omega)).trans d2
          have d3' : PathB w.heap.size w2 Ak ck pth := (d3.mono hD).below bB
          have hbl : b < w2.heap.size := by have := bB.size; omega
          have hkb : btOk p.chs.length p.bts[k] = (within dp 10 3000 && (!decide (pth.length = 0) && pathOk p.chs.length pth pth.length)) := by rw [← hx]; rfl
          have hbad : btOk p.chs.length p.bts[k] = false → checkP p = 100 := fun h => checkR_bts HW.out.2.1 HW.out.2.2 (all_not hlt h)
          have hpc := d3'.2.1
          have hpm := d3'.2.2.1
          have HI := Lib.hid (And.intro hok (And.intro hK (And.intro bB (And.intro hkb (And.intro hbad d3')))))
          have n2 : (k : Int) < (p.bts.length : Int) := by omega
          subst hAb
          clear hok hK hx bB d1 d2 d3 d3' hkb hbad f1' f2' g0 g2
          cases hz : within dp 10 3000
          · go_wp2_with (go_at_call 102; refine (rin9_any _ _ _ _).mono ?_; rintro e w' ⟨rfl, rfl⟩)
            go_ret
            exact ⟨by rw [HI.out.2.2.2.2.1 (by rw [HI.out.2.2.2.1, hz]; rfl)]; rfl, HI.out.2.2.1.alloc HI.out.2.2.1.size _⟩
          by_cases hn : pth.length = 0
          · rw [hn] at d2' hpc
            go_wp2_with (go_at_call 102; refine (rin9_any _ _ _ _).mono ?_; rintro e w' ⟨rfl, rfl⟩)
            go_ret
            exact ⟨by rw [HI.out.2.2.2.2.1 (by rw [HI.out.2.2.2.1, hz, hn]; rfl)]; rfl, HI.out.2.2.1.alloc HI.out.2.2.1.size _⟩
          have hn0 : ((pth.length : Int) == 0) = false := beq_eq_false_iff_ne.2 (by omega)
          obtain ⟨gb, rfl⟩ : ∃ gb, gb = gk := ⟨_, rfl⟩
          go_upto_region 15 with (go_at_call 102; refine (rin9_any _ _ _ _).mono ?_; rintro e w' ⟨rfl, rfl⟩)
          obtain ⟨W3, hW3⟩ : ∃ W, W = w2.alloc (.cells #[.int .i64 dp, .slice Ak pth.length ck] 172) := ⟨_, rfl⟩
          obtain ⟨bq, hbq⟩ : ∃ bq, bq = w2.heap.size := ⟨_, rfl⟩
          have b3 : Below w2.heap.size w2 W3 := by rw [hW3]; exact (Below.refl _ _).alloc (Nat.le_refl _) _
          have q1 : W3.cell? ⟨bq, 1, none⟩ = some (.slice Ak pth.length ck) := by rw [hW3, hbq]; simp [World.cell?_alloc_new]
          have hqw : bq < W3.heap.size := by rw [hW3, hbq]; simp
          have e0 := (b3.cell (p := ⟨bx, 0, none⟩) (show bx < w2.heap.size from hxq)).trans g0'
          have e1 := (b3.cell (p := ⟨bx, 1, none⟩) (show bx < w2.heap.size from hxq)).trans g1
          have p3 : PathB w.heap.size W3 Ak ck pth := HI.out.2.2.2.2.2.below (b3.mono HI.out.2.2.1.size)
          obtain ⟨bp, op, hAk, hbp, hpc3⟩ := p3.1.2 (by omega)
          have bwp : bp < W3.heap.size := by have := b3.size; have := HI.out.2.2.1.size; omega
          have hpl6 := p3.2.2.1
          rw [← hW3, ← hbq]
          have H3 := Lib.hid (And.intro b3 (And.intro p3 (And.intro hz (And.intro hpc3 (show ¬ pth.length = 0 from hn)))))
          have hxq3 : bx < W3.heap.size := by have := b3.size; omega
          subst hAk
          clear hW3 hbq b3 g0' g1 d1' d2' p3 hz hpc3 hpc
          have hnn : 0 < pth.length := by omega
          clear hn hn0
          go_wp2_with fail
          go_loopg [7, 8] (pth.length) (fun g o i wi => ∃ (j : Nat) (Ao : Option Addr) (co : Nat) (q : List Nat), g + j = pth.length ∧ i = .int .i64 j ∧ o = .slice Ao j co ∧ OwnA wi 3 Ao j co (ints (pth.take j)) q ∧ (∀ g ∈ q, W3.heap.size ≤ g) ∧ pathOk p.chs.length pth j = true ∧ j ≤ 6 ∧ Keep [] W3 wi)
          case atStart => exact ⟨0, none, 0, [], rfl, rfl, rfl, by simpa [ints] using OwnA.nil _ _, by simp, rfl, by omega, Keep.refl _ _⟩
          case round =>
            obtain ⟨j, Ao, co, q, hj, rfl, rfl, hO, hq, hjk, hj6, hK3⟩ := hrel
            have k1 := hK3.cell q1 (by simp)
            have k0 := hK3.cell e0 (by simp)
            have zq : bq < wr.heap.size := by have := hK3.size; omega
            have zx : bx < wr.heap.size := by have := hK3.size; omega
            by_cases hlj : j < pth.length
            · obtain ⟨n, hn⟩ : ∃ n, n = pth.getD j 0 := ⟨_, rfl⟩
              have c0 : wr.cell? ⟨bp, op + j, none⟩ = some (.int .i64 n) := by rw [hn]; exact hK3.cell (H3.out.2.2.2.1 j _ (ints_get hlj)) (by simp)
              have zbp : bp < wr.heap.size := by have := hK3.size; omega
              have hS : pathOk p.chs.length pth (j + 1) = (pathOk p.chs.length pth j && (within n 0 ((p.chs.length : Int) - 1) && !(pth.take j).contains n)) := by rw [hn]; rfl
              have hN : (within n 0 ((p.chs.length : Int) - 1) && !(pth.take j).contains n) = false → pathOk p.chs.length pth pth.length = false := fun h => pathOk_no hlj (by rw [← hn]; exact h)
              have htk : (pth.take j).length = j := by rw [List.length_take]; omega
              have hct : ∀ m, Calls Try.prog 106 #[.slice Ao j co, .int .i64 n] (wr.drewN m) fun e w' => e = .returned (.bool ((pth.take j).contains n)) ∧ w' = wr.drewN m := fun m => by
                have h := rhas_any Ao co (pth.take j) n (wr.drewN m) (by rw [htk]; exact (hO.drewN m).rd) (by omega)
                rw [htk] at h
                exact h.mono fun e w' ⟨h1, h2⟩ => ⟨h1, h2.symm⟩
              have hle : within n 0 ((p.chs.length : Int) - 1) = true → (pth.take j).contains n = false → j + 1 ≤ 6 := fun h h' => by
                have h7 : pathOk p.chs.length pth (j + 1) = true := by rw [hS, hjk, h, h']; rfl
                have := path_pre (by omega) h7
                omega
              obtain ⟨z, hzz⟩ : ∃ z, z = (pth.take j).contains n := ⟨_, rfl⟩
              rw [← hzz] at hct hS hN hle
              have n3 : (j : Int) < (pth.length : Int) := by omega
              have HJ := Lib.hid (And.intro hct (And.intro hS (And.intro hN (And.intro hjk (And.intro hn (And.intro hO (And.intro hq (And.intro hK3 hle))))))))
              have hin : ∀ m, Calls Try.prog 102 #[.int .i64 n, .int .i64 0, .int .i64 ((p.chs.length : Int) - 1)] (wr.drewN m) fun e w' => e = .returned (.bool (within n 0 ((p.chs.length : Int) - 1))) ∧ w' = wr.drewN m := fun m => (rin9_any _ _ _ _).mono fun e w' ⟨h1, h2⟩ => ⟨h1, h2.symm⟩
              clear hct hS hN hjk hn hzz hO hq hK3 hle
              cases hw : within n 0 ((p.chs.length : Int) - 1)
              · rw [hw] at hin
                have HD := Lib.hid hin
                clear hin
                go_upto_region 19 with fail
                go_quiet ((go_at_call 102; with_reducible exact Calls.quiet_of_same (HD.out _)))
                go_wp2_with fail
                go_ret
                refine ⟨?_, (HI.out.2.2.1.trans (H3.out.1.mono HI.out.2.2.1.size)).trans ((HJ.out.2.2.2.2.2.2.2.1.drewN _).below (by have := HI.out.2.2.1.size; have := H3.out.1.size; omega) (by simp))⟩
                rw [HI.out.2.2.2.2.1 (by rw [HI.out.2.2.2.1, H3.out.2.2.1, HJ.out.2.2.1 (by rw [hw]; rfl)]; simp)]; rfl
              · rw [hw] at hin
                have HD := Lib.hid hin
                clear hin
                cases z
                · go_upto_region 19 with fail
                  go_quiet ((first | (go_at_call 102; with_reducible exact Calls.quiet_of_same (HD.out _)) | (go_at_call 106; with_reducible exact Calls.quiet_of_same (HJ.out.1 _))))
                  have hle := HJ.out.2.2.2.2.2.2.2.2 hw rfl
                  go_wp2_with (at_builtin
                               refine wpList_append_A rfl (.tmp 98) (.tmp 104) 33 rfl iI _ 8 Try.underlying33 hI0 hI1 hI2 hI3 rfl (A := Ao) (n := j) (c := co) (xs := ints (pth.take j)) (fp := q) (by simp [Act.eval]) _ (by simp [Act.eval]) (.int .i64 n) (((HJ.out.2.2.2.2.2.1.drewN _).alloc _)) (cell_new_one _ _ _) rfl (by omega) (by omega) ?_
                               intro g off' c' w4 e1 e2 e3 e4
                               have HQ := Lib.hid (And.intro e1 (And.intro e2 e4))
                               clear e1 e2 e3 e4)
                  go_roundg (gk - 1)
                  case measure => omega
                  case rel =>
                    obtain ⟨h1, h2, h3, h4, h5, h6, h7, h8, h9⟩ := HJ.out
                    obtain ⟨e1, e2, e4⟩ := HQ.out
                    refine ⟨j + 1, some ⟨g, off', none⟩, c', [g], by omega, by go_num, by go_num, ?_, ?_, by rw [h2, h4, hw]; rfl, hle, ((h8.drewN _).alloc _).trans e4 (fun y hy => .inr (h7 y hy))⟩
                    · rw [List.take_succ_eq_append_getElem hlj]
                      have : pth[j] = n := by rw [h5]; simp [hlj]
                      rw [this]
                      simpa [ints] using e1
                    · intro y hy
                      have e : y = g := by simpa using hy
                      subst e
                      rcases e2 with e | e
                      · exact h7 y e
                      · have := h8.size; simp at e; omega
                · go_upto_region 19 with fail
                  go_quiet ((first | (go_at_call 102; with_reducible exact Calls.quiet_of_same (HD.out _)) | (go_at_call 106; with_reducible exact Calls.quiet_of_same (HJ.out.1 _))))
                  go_wp2_with fail
                  go_ret
                  refine ⟨?_, (HI.out.2.2.1.trans (H3.out.1.mono HI.out.2.2.1.size)).trans ((HJ.out.2.2.2.2.2.2.2.1.drewN _).below (by have := HI.out.2.2.1.size; have := H3.out.1.size; omega) (by simp))⟩
                  rw [HI.out.2.2.2.2.1 (by rw [HI.out.2.2.2.1, H3.out.2.2.1, HJ.out.2.2.1 (by rw [hw]; rfl)]; simp)]; rfl
            · obtain rfl : j = pth.length := by omega
              have HL := Lib.hid (And.intro hjk hK3)
              clear hjk hK3 hO hq
              go_wp2_with fail
              go_roundg (gb - 1)
              case measure => omega
              case rel =>
                refine ⟨k + 1, by omega, by go_num, all_take_succ hlt HI.out.1 (by rw [HI.out.2.2.2.1, H3.out.2.2.1, HL.out.1]; simp; have := H3.out.2.2.2.2; intro h; rw [h] at this; simp at this), ?_⟩
                exact (HI.out.2.1.trans (Keep.of_below (S := []) H3.out.1) (by simp)).trans HL.out.2 (by simp)
        · obtain rfl : k = p.bts.length := by omega
          have hal : p.bts.all (btOk p.chs.length) = true := by rwa [List.take_length] at hok
          have bB : Below w.heap.size w w2 := (HW.out.1.trans (HC.out.2.below HW.out.1.size (by simp))).trans (hK.below (by have := HW.out.1.size; have := HC.out.2.size; omega) (by simp))
          have HE := Lib.hid (And.intro hal bB)
          clear hal hok hK bB
          cases ht : within p.tugs 0 20
          · go_wp2_with (go_at_call 102; refine (rin9_any _ _ _ _).mono ?_; rintro e w' ⟨rfl, rfl⟩)
            go_ret
            exact ⟨by rw [checkP_2 HW.out.2.1 HW.out.2.2 ht]; rfl, HE.out.2⟩
          · go_wp2_with (go_at_call 102; refine (rin9_any _ _ _ _).mono ?_; rintro e w' ⟨rfl, rfl⟩)
            go_ret
            exact ⟨by rw [checkP_5 HW.out.2.1 HW.out.2.2 ht HC.out.1 HE.out.1]; rfl, HE.out.2⟩
end Go.Proofs.Ythmldeningpjbaa
/- Plain law of layer 9: what the reference looks at in each hour is what the program tallies. No program is named here. -/
namespace Go.Proofs.Ythmldeningpjbaa.Pt
open Sp

/-- an hour's tally as the reference makes it: twice, the channels met, the tugs -/
structure Mt where
  twice : Bool
  met : List Int
  tugs : Int
def mHit (t : Mt) (n : Int) : Mt := ⟨t.twice || t.met.contains n, t.met ++ [n], t.tugs⟩
def mCall (p : Prt) (h : Int) (t : Mt) (c : Cal) : Mt := if c.hour = h then (bt p c.berth).path.foldl mHit ⟨t.twice, t.met, t.tugs + c.tugs⟩ else t
def mSwp (h : Int) (t : Int) (s : Swp) : Int := if s.hour = h then t + s.tugs else t
def mHour (p : Prt) (l : Pln) (h : Nat) : Mt := l.calls.foldl (mCall p h) ⟨false, [], 0⟩
def mTugs (p : Prt) (l : Pln) (h : Nat) : Int := l.swps.foldl (mSwp h) (mHour p l h).tugs
/-- the error of the hours from k on -/
def rFin (p : Prt) (l : Pln) : Nat → Nat → Int
  | _, 0 => 0
  | k, n + 1 => if (mHour p l k).twice then 10 else if p.tugs < mTugs p l k then 9 else rFin p l (k + 1) n

/-- the tally of all hours agrees with those of the hours -/
structure TR (H : Nat) (t : Tly) (m : Nat → Mt) : Prop where
  l1 : t.tugs.length = H
  l2 : t.twice.length = H
  tw : ∀ h, h < H → t.twice.getD h false = (m h).twice
  tg : ∀ h, h < H → t.tugs.getD h 0 = (m h).tugs
  ht : ∀ h, h < H → ∀ n, ((h : Int), n) ∈ t.hits ↔ n ∈ (m h).met
theorem TR.hit {H : Nat} {t : Tly} {m : Nat → Mt} (r : TR H t m) {k : Nat} (hk : k < H) (n : Int) : TR H (hit1 k t n) (fun h => if h = k then mHit (m h) n else m h) := by
  have e1 : (k : Int).toNat = k := Int.toNat_natCast k
  have e2 : decide (1 < t.hits.count ((k : Int), n) + 1) = (m k).met.contains n := by
    rw [Bool.eq_iff_iff, decide_eq_true_eq, List.contains_iff_mem, ← r.ht k hk n, ← List.count_pos_iff]
    omega
  refine ⟨r.l1, by simp [hit1, r.l2], fun h hh => ?_, fun h hh => ?_, fun h hh x => ?_⟩
  · simp only [hit1, e1]
    rw [List.getD_eq_getElem?_getD, List.getElem?_set]
    by_cases e : h = k
    · subst e
      rw [if_pos rfl, if_pos rfl, if_pos (by rw [r.l2]; exact hk), e2, r.tw h hh]
      rfl
    · rw [if_neg (fun x => e x.symm), if_neg e, ← List.getD_eq_getElem?_getD, r.tw h hh]
  · by_cases e : h = k
    · subst e; simpa [hit1, mHit] using r.tg h hh
    · simpa [hit1, e] using r.tg h hh
  · by_cases e : h = k
    · subst e
      have := r.ht h hh x
      simp [hit1, mHit, this, or_comm]
    · have := r.ht h hh x
      simp [hit1, e, this]
      intro h1
      omega
theorem TR.hits {H : Nat} {k : Nat} (hk : k < H) : ∀ (l : List Int) {t : Tly} {m : Nat → Mt}, TR H t m → TR H (l.foldl (hit1 k) t) (fun h => if h = k then l.foldl mHit (m h) else m h)
  | [], t, m, r => by simpa using r
  | n :: l, t, m, r => by
    have := TR.hits hk l (r.hit hk n)
    refine Eq.mp ?_ this
    congr 1
    funext h
    by_cases e : h = k
    · simp [e]
    · simp [e]
theorem TR.call {H : Nat} {p : Prt} {t : Tly} {m : Nat → Mt} (r : TR H t m) (c : Cal) (h0 : 0 ≤ c.hour) (h1 : c.hour < H) : TR H (tlyCall p t c) (fun h => mCall p h (m h) c) := by
  obtain ⟨k, hk⟩ : ∃ k : Nat, c.hour = k := ⟨c.hour.toNat, by omega⟩
  have hkH : k < H := by omega
  have e1 : (k : Int).toNat = k := Int.toNat_natCast k
  have r1 : TR H ⟨setI t.tugs k (getI t.tugs k + c.tugs), t.twice, t.hits⟩ (fun h => if h = k then ⟨(m h).twice, (m h).met, (m h).tugs + c.tugs⟩ else m h) := by
    refine ⟨by simp [setI, r.l1], r.l2, fun h hh => ?_, fun h hh => ?_, fun h hh x => ?_⟩
    · have := r.tw h hh
      by_cases e : h = k <;> simp [e] <;> simpa [e] using this
    · simp only [setI, getI, e1]
      rw [List.getD_eq_getElem?_getD, List.getElem?_set]
      by_cases e : h = k
      · subst e
        rw [if_pos rfl, if_pos rfl, if_pos (by rw [r.l1]; exact hh), r.tg h hh]
        rfl
      · rw [if_neg (fun x => e x.symm), if_neg e, ← List.getD_eq_getElem?_getD, r.tg h hh]
    · have := r.ht h hh x
      by_cases e : h = k <;> simp [e] <;> simpa [e] using this
  have r2 := TR.hits hkH (bt p c.berth).path r1
  refine Eq.mp ?_ r2
  unfold tlyCall
  rw [hk]
  congr 1
  funext h
  unfold mCall
  rw [hk]
  by_cases e : h = k
  · subst e; simp
  · have : ¬ ((k : Int) = (h : Int)) := by omega
    simp [e, this]
theorem TR.calls {H : Nat} {p : Prt} : ∀ (l : List Cal) {t : Tly} {m : Nat → Mt}, TR H t m → (∀ c ∈ l, 0 ≤ c.hour ∧ c.hour < H) → TR H (l.foldl (tlyCall p) t) (fun h => l.foldl (mCall p h) (m h))
  | [], t, m, r, _ => r
  | c :: l, t, m, r, h => TR.calls l (r.call c (h c (by simp)).1 (h c (by simp)).2) (fun x hx => h x (by simp [hx]))
theorem tr_zero (H : Nat) : TR H (tly0 H) (fun _ => ⟨false, [], 0⟩) := by
  refine ⟨by simp [tly0], by simp [tly0], fun h hh => ?_, fun h hh => ?_, fun h hh n => by simp [tly0]⟩
  · simp [tly0, List.getD_eq_getElem?_getD, hh]
  · simp [tly0, List.getD_eq_getElem?_getD, hh]
theorem swps_get {H : Nat} : ∀ (l : List Swp) {t : List Int}, t.length = H → (∀ s ∈ l, 0 ≤ s.hour ∧ s.hour < H) → ∀ h, h < H → (l.foldl addSwp t).getD h 0 = l.foldl (mSwp h) (t.getD h 0)
  | [], t, _, _, h, _ => rfl
  | s :: l, t, ht, hs, h, hh => by
    have h1 := hs s (by simp)
    obtain ⟨k, hk⟩ : ∃ k : Nat, s.hour = k := ⟨s.hour.toNat, by omega⟩
    have e1 : (k : Int).toNat = k := Int.toNat_natCast k
    rw [List.foldl_cons, List.foldl_cons, swps_get l (by simp [addSwp, setI, ht]) (fun x hx => hs x (by simp [hx])) h hh]
    congr 1
    unfold addSwp mSwp
    rw [hk]
    simp only [setI, getI, e1]
    rw [List.getD_eq_getElem?_getD, List.getElem?_set]
    by_cases e : h = k
    · subst e
      rw [if_pos rfl, if_pos rfl, if_pos (by rw [ht]; exact hh)]
      rfl
    · rw [if_neg (fun x => e x.symm), if_neg (by omega), ← List.getD_eq_getElem?_getD]
/-- the errors of the hours are the reference's -/
theorem fin_ref {p : Prt} {l : Pln} (hc : ∀ c ∈ l.calls, 0 ≤ c.hour ∧ c.hour < l.hours) (hs : ∀ s ∈ l.swps, 0 ≤ s.hour ∧ s.hour < l.hours) (h0 : 0 ≤ l.hours) : ∀ n k, k + n = l.hours.toNat →
    finE p.tugs (l.swps.foldl addSwp (tlyCalls p l.hours.toNat l.calls).tugs) (tlyCalls p l.hours.toNat l.calls).twice k n = rFin p l k n := by
  have hh : ((l.hours.toNat : Nat) : Int) = l.hours := by omega
  have r := TR.calls (p := p) l.calls (tr_zero l.hours.toNat) (fun c h => by have := hc c h; omega)
  have hsw := swps_get l.swps r.l1 (fun s h => by have := hs s h; omega)
  intro n
  induction n with
  | zero => intro k _; rfl
  | succ n ih =>
    intro k hk
    have e1 := r.tw k (by omega)
    have e2 := hsw k (by omega)
    rw [r.tg k (by omega)] at e2
    unfold finE rFin tlyCalls
    rw [e1, e2, ← ih (k + 1) (by omega)]
    rfl
theorem check_ref (p : Prt) (l : Pln) : checkL p l =
    if checkP p ≠ 0 then checkP p
    else if 60 < l.calls.length ∨ 200 < l.swps.length then 2
    else if within l.hours 1 100 = false then 6
    else if callsE p l.hours 0 l.calls ≠ 0 then callsE p l.hours 0 l.calls
    else if swpsE p l.hours l.swps ≠ 0 then swpsE p l.hours l.swps
    else rFin p l 0 l.hours.toNat := by
  unfold checkL
  by_cases h1 : checkP p ≠ 0
  · rw [if_pos h1, if_pos h1]
  rw [if_neg h1, if_neg h1]
  by_cases h2 : 60 < l.calls.length ∨ 200 < l.swps.length
  · rw [if_pos h2, if_pos h2]
  rw [if_neg h2, if_neg h2]
  by_cases h3 : within l.hours 1 100 = false
  · rw [if_pos h3, if_pos h3]
  rw [if_neg h3, if_neg h3]
  by_cases h4 : callsE p l.hours 0 l.calls ≠ 0
  · rw [if_pos h4, if_pos h4]
  rw [if_neg h4, if_neg h4]
  by_cases h5 : swpsE p l.hours l.swps ≠ 0
  · rw [if_pos h5, if_pos h5]
  rw [if_neg h5, if_neg h5]
  have hc := (callsE_ok (by simpa using h4)).1
  have hs := swpsE_ok (by simpa using h5)
  have h3' : 1 ≤ l.hours := by simp [within] at h3; omega
  exact fin_ref (fun c h => by have := hc c h; omega) (fun s h => by have := hs s h; omega) (by omega) _ _ (by omega)
end Go.Proofs.Ythmldeningpjbaa.Pt
