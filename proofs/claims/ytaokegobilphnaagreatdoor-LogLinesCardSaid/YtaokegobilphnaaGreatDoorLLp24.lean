/- log.PrintPatch (printed by tools/lgpp.py) -/
import Derived.Test.YtaokegobilphnaaGreatDoorLLp23
import Derived.Test.YtaokegobilphnaaGreatDoorLLp2
import Derived.Test.YtaokegobilphnaaGreatDoorLLp4
import Derived.Sort.QuietIn
import Derived.Test.YtaokegobilphnaaGreatDoorLLp1
import Derived.Test.YtaokegobilphnaaGreatDoorLLp0
import Derived.Test.YtaokegobilphnaaGreatDoorProg
import Derived.Deep.DeepCutAuto
set_option linter.unusedVariables false
set_option linter.unusedSimpArgs false
namespace Go.Proofs.YtaokegobilphnaaGreatDoor
open Go Go.RowKit Go.Shelf Go.Proofs Sp Lg
set_option linter.unusedVariables false
set_option linter.unusedSimpArgs false

theorem infoLgChg : (Tryz.prog.info? 153).map (fun i => (i.zero, i.size, i.bytes)) = some (some (.agg #[.bool false, .int .i64 0, .int .i64 0, .int .i64 0, .int .i64 0, .int .i64 0, .int .i64 0, .int .i64 0, .int .i64 0]), 9, 72) := by kernel_rfl
theorem chgN_ok {p q : List Cel} {k : Nat} (hq : ∀ v ∈ q, celOk v = true) (hk : k ≤ q.length) : ∀ v ∈ chgN p q k, NatL (celI v.cel) := by
  intro v hv
  obtain ⟨i, hi, rfl⟩ := List.mem_map.1 hv
  have hik : i < q.length := by have := List.mem_range.1 hi; omega
  intro n hn
  unfold chg1 at hn
  split at hn
  · simp [celI] at hn; omega
  · have h1 : celOk (q.getD i default) = true := by rw [List.getD_eq_getElem?_getD, List.getElem?_eq_getElem hik]; exact hq _ (List.getElem_mem _)
    have := cel_nat h1 n hn
    omega
set_option maxRecDepth 100000 in
set_option maxHeartbeats 4000000 in
theorem gPrintPatch_any (a b c : Int) (p : List Cel) (A : Option Addr) (ca : Nat) (x y z : Int) (q : List Cel) (B : Option Addr) (cb : Nat) (w : World) (hr : Rd w 8 A p.length (cels p)) (hr2 : Rd w 8 B q.length (cels q)) (hl : p.length ≤ 1000000) (hl2 : q.length ≤ 1000000) (E : Env w) :
    Calls Tryz.prog 36 #[.agg #[.int .i64 a, .int .i64 b, .int .i64 c, .slice A p.length ca], .agg #[.int .i64 x, .int .i64 y, .int .i64 z, .slice B q.length cb]] w (PpPost w a b c p x y z q) := by
  obtain ⟨iC, hC0, hC1, hC2, hC3⟩ := info_parts infoLgChg
  obtain ⟨e1, he1⟩ : ∃ e, e = chartE a b c p := ⟨_, rfl⟩
  obtain ⟨e2, he2⟩ : ∃ e, e = chartE x y z q := ⟨_, rfl⟩
  obtain ⟨n1, hn1⟩ : ∃ n, n = p.length := ⟨_, rfl⟩
  obtain ⟨n2, hn2⟩ : ∃ n, n = q.length := ⟨_, rfl⟩
  obtain ⟨fx, hfx⟩ : ∃ b, b = w.heap.size := ⟨_, rfl⟩
  obtain ⟨tx, htx⟩ : ∃ b, b = fx + 1 := ⟨_, rfl⟩
  obtain ⟨W1, hW1⟩ : ∃ W, W = (w.alloc (.cells #[.int .i64 a, .int .i64 b, .int .i64 c, .slice A n1 ca] 57)).alloc (.cells #[.int .i64 x, .int .i64 y, .int .i64 z, .slice B n2 cb] 57) := ⟨_, rfl⟩
  have hf1 : W1.heap[fx]? = some (.cells #[.int .i64 a, .int .i64 b, .int .i64 c, .slice A n1 ca] 57 (0, 0)) := by rw [hW1, hfx]; exact heap_alloc' (heap_alloc_new _ _) _
  have ht1 : W1.heap[tx]? = some (.cells #[.int .i64 x, .int .i64 y, .int .i64 z, .slice B n2 cb] 57 (0, 0)) := by
    rw [hW1, htx, hfx]
    have := heap_alloc_new (w.alloc (.cells #[.int .i64 a, .int .i64 b, .int .i64 c, .slice A n1 ca] 57)) (.cells #[.int .i64 x, .int .i64 y, .int .i64 z, .slice B n2 cb] 57)
    rwa [World.size_alloc] at this
  have bW1 : Below w.heap.size w W1 := by rw [hW1]; exact ((Below.refl _ _).alloc (Nat.le_refl _) _).alloc (by simp) _
  have kc1 : ∀ W, Below w.heap.size w W → Calls Tryz.prog 87 #[.agg #[.int .i64 a, .int .i64 b, .int .i64 c, .slice A n1 ca]] W fun e w' => e = .returned (.int .i64 e1) ∧ Below W.heap.size W w' := fun W hW => by
    have h := checkChart_any a b c A ca p W (hr.below hW) (by omega)
    rw [← he1, ← hn1] at h
    exact h
  have kc2 : ∀ W, Below w.heap.size w W → Calls Tryz.prog 87 #[.agg #[.int .i64 x, .int .i64 y, .int .i64 z, .slice B n2 cb]] W fun e w' => e = .returned (.int .i64 e2) ∧ Below W.heap.size W w' := fun W hW => by
    have h := checkChart_any x y z B cb q W (hr2.below hW) (by omega)
    rw [← he2, ← hn2] at h
    exact h
  have v0 := (cell_of_heap hf1 0).trans rfl
  have v1 := (cell_of_heap hf1 1).trans rfl
  have v2 := (cell_of_heap hf1 2).trans rfl
  have v3 := (cell_of_heap hf1 3).trans rfl
  have u0 := (cell_of_heap ht1 0).trans rfl
  have u1 := (cell_of_heap ht1 1).trans rfl
  have u2 := (cell_of_heap ht1 2).trans rfl
  have u3 := (cell_of_heap ht1 3).trans rfl
  have zf := heap_lt hf1
  have zt := heap_lt ht1
  have HK := Lib.hid (And.intro kc1 (And.intro kc2 (And.intro he1 (And.intro he2 (And.intro hn1 (And.intro hn2 (And.intro hr (And.intro hr2 (And.intro E (And.intro bW1 (And.intro hf1 ht1)))))))))))
  rw [← hn1] at hl
  rw [← hn2] at hl2
  rw [← hn1, ← hn2]
  clear kc1 kc2 he1 he2 hn1 hn2 hr hr2 E bW1 hf1 ht1
  have hPE1 : e1 ≠ 0 → ppE a b c p x y z q = e1 ∧ ppV a b c p x y z q = [] := fun h => by
    have h9 : ppE a b c p x y z q = e1 := by unfold ppE; rw [← HK.out.2.2.1, if_pos h]
    exact ⟨h9, by unfold ppV; rw [h9, if_neg h]⟩
  have hPE2 : e1 = 0 → e2 ≠ 0 → ppE a b c p x y z q = e2 ∧ ppV a b c p x y z q = [] := fun h h2 => by
    have h9 : ppE a b c p x y z q = e2 := by unfold ppE; rw [← HK.out.2.2.1, ← HK.out.2.2.2.1, if_neg (not_not_intro h), if_pos h2]
    exact ⟨h9, by unfold ppV; rw [h9, if_neg h2]⟩
  refine (callsIn_wide (n := 9)).1 ?_
  refine callsIn_of_wp_marks Tryz.func36 rfl trivial ?_ rfl
  simp only [Tryz.ntmps36, List.size_toArray, List.length_cons, List.length_nil, Nat.reduceAdd, Nat.reduceSub, Array.replicate_succ, Array.replicate_zero, List.push_toArray, List.append_toArray, List.nil_append, List.cons_append]
  refine (wpIn_wide (n := 9)).2 ?_
  go_upto_region 1 with fail
  rw [← hW1, ← hfx, ← htx]
  clear hW1 hfx htx
  go_upto_block 0 with fail
  obtain ⟨sb, hsb⟩ : ∃ b, b = W1.heap.size := ⟨_, rfl⟩
  obtain ⟨W2, hW2⟩ : ∃ W, W = W1.alloc (.cells #[.int .i64 a, .int .i64 b, .int .i64 c, .slice A n1 ca, .int .i64 x, .int .i64 y, .int .i64 z, .slice B n2 cb] 57) := ⟨_, rfl⟩
  have b2 : Below W1.heap.size W1 W2 := by rw [hW2]; exact (Below.refl _ _).alloc (Nat.le_refl _) _
  have hs2 : W2.heap[sb]? = some (.cells #[.int .i64 a, .int .i64 b, .int .i64 c, .slice A n1 ca, .int .i64 x, .int .i64 y, .int .i64 z, .slice B n2 cb] 57 (0, 0)) := by rw [hW2, hsb]; exact heap_alloc_new _ _
  rw [← hW2, ← hsb]
  have H2 := Lib.hid (And.intro b2 hs2)
  clear hW2 hsb b2 hs2
  go_cut [] from 20 to 28 (fun wx => e1 = 0 ∧ e2 = 0 ∧ Below W1.heap.size W1 wx)
  case first =>
    go_wp2_with fail
    go_loopg [19] 2 (fun g i wr => ∃ k : Nat, g + k = 2 ∧ i = .int .i64 k ∧ (1 ≤ k → e1 = 0) ∧ (2 ≤ k → e2 = 0) ∧ Below W2.heap.size W2 wr)
    case atStart => exact ⟨0, rfl, rfl, by omega, by omega, Below.refl _ _⟩
    case round =>
      obtain ⟨k, hk, rfl, h1, h2, bb⟩ := hrel
      have hs := (bb.block sb (heap_lt H2.out.2)).trans H2.out.2
      have zs := heap_lt hs
      have b1 := H2.out.1.trans (bb.mono H2.out.1.size)
      have bw := HK.out.2.2.2.2.2.2.2.2.2.1.trans (b1.mono HK.out.2.2.2.2.2.2.2.2.2.1.size)
      have k0 : (0 : Int) ≤ (k : Int) := by omega
      by_cases hk0 : k = 0
      · have m0 : wr.cell? ⟨sb, k * 4, none⟩ = some (.int .i64 a) := by rw [hk0]; exact (cell_of_heap hs 0).trans rfl
        have m1 : wr.cell? ⟨sb, k * 4 + 1, none⟩ = some (.int .i64 b) := by rw [hk0]; exact (cell_of_heap hs 1).trans rfl
        have m2 : wr.cell? ⟨sb, k * 4 + 2, none⟩ = some (.int .i64 c) := by rw [hk0]; exact (cell_of_heap hs 2).trans rfl
        have m3 : wr.cell? ⟨sb, k * 4 + 3, none⟩ = some (.slice A n1 ca) := by rw [hk0]; exact (cell_of_heap hs 3).trans rfl
        have k2 : (k : Int) < 2 := by omega
        have HR := Lib.hid (And.intro bb (And.intro b1 (And.intro bw hk0)))
        clear bb b1 bw hs hk0 h1 h2
        by_cases hz : e1 = 0
        · have hne : (e1 != 0) = false := by simp [hz]
          have HZ := Lib.hid hz
          clear hz
          go_wp2_with (go_at_call 87; refine (HK.out.1 _ (HR.out.2.2.1.alloc HR.out.2.2.1.size _)).mono ?_; rintro e w5 ⟨rfl, b5⟩; have H5 := Lib.hid b5; clear b5)
          go_roundg (2 - (k + 1))
          case measure => omega
          case rel =>
            have bA : Below wr.heap.size wr (wr.alloc (.cells #[.int .i64 a, .int .i64 b, .int .i64 c, .slice A n1 ca] 57)) := (Below.refl _ _).alloc (Nat.le_refl _) _
            exact ⟨k + 1, by omega, by go_num, fun _ => HZ.out, fun h => by have := HR.out.2.2.2; omega, HR.out.1.trans ((bA.trans (H5.out.mono bA.size)).mono HR.out.1.size)⟩
        · have hne : (e1 != 0) = true := by simpa using hz
          have HZ := Lib.hid hz
          clear hz
          go_wp2_with (go_at_call 87; refine (HK.out.1 _ (HR.out.2.2.1.alloc HR.out.2.2.1.size _)).mono ?_; rintro e w5 ⟨rfl, b5⟩; have H5 := Lib.hid b5; clear b5)
          refine ⟨_, results_tmp2 rfl _ _ _, ?_, ?_⟩
          · have h9 := hPE1 HZ.out
            rw [h9.1, h9.2]
            rfl
          · exact (HR.out.2.2.1.alloc HR.out.2.2.1.size _).trans (H5.out.mono (Nat.le_trans HR.out.2.2.1.size (by simp)))
      · by_cases hk1 : k = 1
        · have m0 : wr.cell? ⟨sb, k * 4, none⟩ = some (.int .i64 x) := by rw [hk1]; exact (cell_of_heap hs 4).trans rfl
          have m1 : wr.cell? ⟨sb, k * 4 + 1, none⟩ = some (.int .i64 y) := by rw [hk1]; exact (cell_of_heap hs 5).trans rfl
          have m2 : wr.cell? ⟨sb, k * 4 + 2, none⟩ = some (.int .i64 z) := by rw [hk1]; exact (cell_of_heap hs 6).trans rfl
          have m3 : wr.cell? ⟨sb, k * 4 + 3, none⟩ = some (.slice B n2 cb) := by rw [hk1]; exact (cell_of_heap hs 7).trans rfl
          have k2 : (k : Int) < 2 := by omega
          have HR := Lib.hid (And.intro bb (And.intro b1 (And.intro bw (And.intro hk1 (h1 (by omega))))))
          clear bb b1 bw hs hk0 hk1 h1 h2
          by_cases hz : e2 = 0
          · have hne : (e2 != 0) = false := by simp [hz]
            have HZ := Lib.hid hz
            clear hz
            go_wp2_with (go_at_call 87; refine (HK.out.2.1 _ (HR.out.2.2.1.alloc HR.out.2.2.1.size _)).mono ?_; rintro e w5 ⟨rfl, b5⟩; have H5 := Lib.hid b5; clear b5)
            go_roundg (2 - (k + 1))
            case measure => omega
            case rel =>
              have bA : Below wr.heap.size wr (wr.alloc (.cells #[.int .i64 x, .int .i64 y, .int .i64 z, .slice B n2 cb] 57)) := (Below.refl _ _).alloc (Nat.le_refl _) _
              exact ⟨k + 1, by omega, by go_num, fun _ => HR.out.2.2.2.2, fun _ => HZ.out, HR.out.1.trans ((bA.trans (H5.out.mono bA.size)).mono HR.out.1.size)⟩
          · have hne : (e2 != 0) = true := by simpa using hz
            have HZ := Lib.hid hz
            clear hz
            go_wp2_with (go_at_call 87; refine (HK.out.2.1 _ (HR.out.2.2.1.alloc HR.out.2.2.1.size _)).mono ?_; rintro e w5 ⟨rfl, b5⟩; have H5 := Lib.hid b5; clear b5)
            refine ⟨_, results_tmp2 rfl _ _ _, ?_, ?_⟩
            · have h9 := hPE2 HR.out.2.2.2.2 HZ.out
              rw [h9.1, h9.2]
              rfl
            · exact (HR.out.2.2.1.alloc HR.out.2.2.1.size _).trans (H5.out.mono (Nat.le_trans HR.out.2.2.1.size (by simp)))
        · have hk2 : k = 2 := by omega
          have HR := Lib.hid (And.intro (h1 (by omega)) (And.intro (h2 (by omega)) b1))
          have k2 : ¬ (k : Int) < 2 := by omega
          clear bb b1 bw hs hk0 hk1 h1 h2 hk2
          go_wp2_with fail
          go_meet
          exact HR.out
  case rest =>
  obtain ⟨h10, h20, bx⟩ := hcut
  apply_assumption
  obtain ⟨w5, hw5⟩ : ∃ u, u = wc := ⟨_, rfl⟩
  subst hw5
  have ok1 := chartE_ok (HK.out.2.2.1.symm.trans h10)
  have ok2 := chartE_ok (HK.out.2.2.2.1.symm.trans h20)
  have hf5 := (bx.block fx zf).trans HK.out.2.2.2.2.2.2.2.2.2.2.1
  have ht5 := (bx.block tx zt).trans HK.out.2.2.2.2.2.2.2.2.2.2.2
  have bw := HK.out.2.2.2.2.2.2.2.2.2.1.trans (bx.mono HK.out.2.2.2.2.2.2.2.2.2.1.size)
  have g0 := (cell_of_heap hf5 0).trans rfl
  have g1 := (cell_of_heap hf5 1).trans rfl
  have g3 := (cell_of_heap hf5 3).trans rfl
  have t0 := (cell_of_heap ht5 0).trans rfl
  have t1 := (cell_of_heap ht5 1).trans rfl
  have t3 := (cell_of_heap ht5 3).trans rfl
  have zf5 := heap_lt hf5
  have zt5 := heap_lt ht5
  have HC := Lib.hid (And.intro ok1 (And.intro ok2 (And.intro hf5 (And.intro ht5 (And.intro bw (And.intro h10 h20))))))
  clear ok1 ok2 hf5 ht5 bw h10 h20 bx v0 v1 v2 v3 u0 u1 u2 u3
  by_cases hab : a = x ∧ b = y
  · have i1 : (a != x) = false := by simp [hab.1]
    have i2 : (b != y) = false := by simp [hab.2]
    have hnn : n1 = n2 := by
      have h1 := HC.out.1.2.2.2.2.1
      have h2 := HC.out.2.1.2.2.2.2.1
      rw [hab.1, hab.2, ← h2] at h1
      have := HK.out.2.2.2.2.1
      have := HK.out.2.2.2.2.2.1
      omega
    have hn4 : n2 ≤ 1024 := by have := HK.out.2.2.2.2.2.1; have := HC.out.2.1.2.2.2.1; omega
    have HAB := Lib.hid (And.intro hab hnn)
    clear hab hnn
    go_upto_block 2 with fail
    obtain ⟨lb, hlb⟩ : ∃ b, b = w5.heap.size := ⟨_, rfl⟩
    obtain ⟨W6, hW6⟩ : ∃ W, W = w5.alloc (.cells #[.slice none 0 0] 151) := ⟨_, rfl⟩
    rw [← hW6, ← hlb]
    have o6 : Own w5.heap.size w5 [.blk lb (.cells #[.slice none 0 0] 151), .own 153 9 none 0 0 (chgs (chgN p q 0)) []] W6 := by
      have h := Own.alloc (Own.start w5) (.cells #[.slice none 0 0] 151)
      rw [hW6, hlb]
      exact Own.new h (Below.refl _ _) (i := .own 153 9 none 0 0 (chgs (chgN p q 0)) []) (OwnS.nil _ _ _) (fun x hx => by simp [It.fp] at hx)
    have H6 := Lib.hid o6
    clear o6 hlb hW6
    go_cut [] from 45 to 65 (fun wx => ∃ (A' : Option Addr) (c' : Nat) (qo : List Nat), Own w5.heap.size w5 [.blk lb (.cells #[.slice A' n2 c'] 151), .own 153 9 A' n2 c' (chgs (chgN p q n2)) qo] wx)
    case first =>
      go_wp2_with fail
      go_loopg [44] n2 (fun g i wr => ∃ (k : Nat) (A' : Option Addr) (c' : Nat) (qo : List Nat), g + k = n2 ∧ i = .int .i64 k ∧ Own w5.heap.size w5 [.blk lb (.cells #[.slice A' k c'] 151), .own 153 9 A' k c' (chgs (chgN p q k)) qo] wr)
      case atStart => exact ⟨0, none, 0, [], by omega, rfl, H6.out⟩
      case round =>
        obtain ⟨k, A', c', qo, hk, rfl, hO⟩ := hrel
        by_cases hlt : k < n2
        · have hkq : k < q.length := by have := HK.out.2.2.2.2.2.1; omega
          have hkp : k < p.length := by have := HK.out.2.2.2.2.1; have := HAB.out.2; omega
          have hk1 : k < n1 := by have := HAB.out.2; omega
          have bwr := HC.out.2.2.2.2.1.trans (hO.bel.mono HC.out.2.2.2.2.1.size)
          obtain ⟨bq, oq, rfl, hbq, hcq⟩ := (HK.out.2.2.2.2.2.2.2.1.below bwr).2 (by omega)
          obtain ⟨bp, op, rfl, hbp, hcp⟩ := (HK.out.2.2.2.2.2.2.1.below bwr).2 (by omega)
          obtain ⟨Y, hY⟩ : ∃ Y, Y = q[k]'hkq := ⟨_, rfl⟩
          obtain ⟨X, hX⟩ : ∃ X, X = p[k]'hkp := ⟨_, rfl⟩
          have hnx : chgN p q (k + 1) = chgN p q k ++ [chg1 X Y] := by
            rw [chgN_succ, hX, hY, List.getD_eq_getElem?_getD, List.getD_eq_getElem?_getD, List.getElem?_eq_getElem hkq, List.getElem?_eq_getElem hkp]; rfl
          obtain ⟨j0, j1, j2, j3, j4, j5, j6, j7⟩ := cels_get (l := q) (k := k) hkq
          rw [← hY] at j0 j1 j2 j3 j4 j5 j6 j7
          obtain ⟨i0', i1', i2', i3', i4', i5', i6', i7'⟩ := cels_get (l := p) (k := k) hkp
          rw [← hX] at i0' i1' i2' i3' i4' i5' i6' i7'
          obtain ⟨yy0, yy1, yy2, yy3, yy4, yy5, yy6, yy7⟩ := Y
          obtain ⟨xx0, xx1, xx2, xx3, xx4, xx5, xx6, xx7⟩ := X
          have m0 : wr.cell? ⟨bq, oq + k * 8, none⟩ = some (.int .i64 yy0) := hcq _ _ j0
          have m1 : wr.cell? ⟨bq, oq + k * 8 + 1, none⟩ = some (.int .i64 yy1) := by rw [Nat.add_assoc]; exact hcq _ _ j1
          have m2 : wr.cell? ⟨bq, oq + k * 8 + 2, none⟩ = some (.int .i64 yy2) := by rw [Nat.add_assoc]; exact hcq _ _ j2
          have m3 : wr.cell? ⟨bq, oq + k * 8 + 3, none⟩ = some (.int .i64 yy3) := by rw [Nat.add_assoc]; exact hcq _ _ j3
          have m4 : wr.cell? ⟨bq, oq + k * 8 + 4, none⟩ = some (.int .i64 yy4) := by rw [Nat.add_assoc]; exact hcq _ _ j4
          have m5 : wr.cell? ⟨bq, oq + k * 8 + 5, none⟩ = some (.int .i64 yy5) := by rw [Nat.add_assoc]; exact hcq _ _ j5
          have m6 : wr.cell? ⟨bq, oq + k * 8 + 6, none⟩ = some (.int .i64 yy6) := by rw [Nat.add_assoc]; exact hcq _ _ j6
          have m7 : wr.cell? ⟨bq, oq + k * 8 + 7, none⟩ = some (.int .i64 yy7) := by rw [Nat.add_assoc]; exact hcq _ _ j7
          have hf := ((hO.bel.block fx zf5).trans HC.out.2.2.1)
          have q3 := (cell_of_heap hf 3).trans rfl
          have zfr := heap_lt hf
          obtain ⟨u1, hu1⟩ : ∃ u, u = wr.alloc (.cells #[.int .i64 yy0, .int .i64 yy1, .int .i64 yy2, .int .i64 yy3, .int .i64 yy4, .int .i64 yy5, .int .i64 yy6, .int .i64 yy7] 73) := ⟨_, rfl⟩
          obtain ⟨xb, hxb⟩ : ∃ b, b = wr.heap.size := ⟨_, rfl⟩
          have bu1 : Below wr.heap.size wr u1 := by rw [hu1]; exact (Below.refl _ _).alloc (Nat.le_refl _) _
          have hx1 : u1.heap[xb]? = some (.cells #[.int .i64 yy0, .int .i64 yy1, .int .i64 yy2, .int .i64 yy3, .int .i64 yy4, .int .i64 yy5, .int .i64 yy6, .int .i64 yy7] 73 (0, 0)) := by rw [hu1, hxb]; exact heap_alloc_new _ _
          have x0' := (cell_of_heap hx1 0).trans rfl
          have x1' := (cell_of_heap hx1 1).trans rfl
          have x2' := (cell_of_heap hx1 2).trans rfl
          have x3' := (cell_of_heap hx1 3).trans rfl
          have x4' := (cell_of_heap hx1 4).trans rfl
          have x5' := (cell_of_heap hx1 5).trans rfl
          have x6' := (cell_of_heap hx1 6).trans rfl
          have x7' := (cell_of_heap hx1 7).trans rfl
          have p0' : u1.cell? ⟨bp, op + k * 8, none⟩ = some (.int .i64 xx0) := (bu1.cell (p := ⟨bp, op + k * 8, none⟩) hbp).trans (hcp _ _ i0')
          have p1' : u1.cell? ⟨bp, op + k * 8 + 1, none⟩ = some (.int .i64 xx1) := (bu1.cell (p := ⟨bp, op + k * 8 + 1, none⟩) hbp).trans (by rw [Nat.add_assoc]; exact hcp _ _ i1')
          have p2' : u1.cell? ⟨bp, op + k * 8 + 2, none⟩ = some (.int .i64 xx2) := (bu1.cell (p := ⟨bp, op + k * 8 + 2, none⟩) hbp).trans (by rw [Nat.add_assoc]; exact hcp _ _ i2')
          have p3' : u1.cell? ⟨bp, op + k * 8 + 3, none⟩ = some (.int .i64 xx3) := (bu1.cell (p := ⟨bp, op + k * 8 + 3, none⟩) hbp).trans (by rw [Nat.add_assoc]; exact hcp _ _ i3')
          have p4' : u1.cell? ⟨bp, op + k * 8 + 4, none⟩ = some (.int .i64 xx4) := (bu1.cell (p := ⟨bp, op + k * 8 + 4, none⟩) hbp).trans (by rw [Nat.add_assoc]; exact hcp _ _ i4')
          have p5' : u1.cell? ⟨bp, op + k * 8 + 5, none⟩ = some (.int .i64 xx5) := (bu1.cell (p := ⟨bp, op + k * 8 + 5, none⟩) hbp).trans (by rw [Nat.add_assoc]; exact hcp _ _ i5')
          have p6' : u1.cell? ⟨bp, op + k * 8 + 6, none⟩ = some (.int .i64 xx6) := (bu1.cell (p := ⟨bp, op + k * 8 + 6, none⟩) hbp).trans (by rw [Nat.add_assoc]; exact hcp _ _ i6')
          have p7' : u1.cell? ⟨bp, op + k * 8 + 7, none⟩ = some (.int .i64 xx7) := (bu1.cell (p := ⟨bp, op + k * 8 + 7, none⟩) hbp).trans (by rw [Nat.add_assoc]; exact hcp _ _ i7')
          have q31 := (bu1.cell (p := ⟨fx, 3, none⟩) zfr).trans q3
          have zf1 := Nat.lt_of_lt_of_le zfr bu1.size
          have zp1 := Nat.lt_of_lt_of_le hbp bu1.size
          have zx1 := heap_lt hx1
          have n0 : (0 : Int) ≤ (k : Int) := by omega
          have n1' : (k : Int) < (n1 : Int) := by omega
          have n2' : (k : Int) < (n2 : Int) := by omega
          have HR := Lib.hid (And.intro hO (And.intro bu1 (And.intro hx1 hnx)))
          clear hO bu1 hx1 hnx hf hY hX hcq hcp j0 j1 j2 j3 j4 j5 j6 j7 i0' i1' i2' i3' i4' i5' i6' i7' bwr q3
          by_cases hyx : (⟨yy0, yy1, yy2, yy3, yy4, yy5, yy6, yy7⟩ : Cel) = (⟨xx0, xx1, xx2, xx3, xx4, xx5, xx6, xx7⟩ : Cel)
          · have hE : ∀ w, (binOp .eql 73 (.agg #[.int .i64 yy0, .int .i64 yy1, .int .i64 yy2, .int .i64 yy3, .int .i64 yy4, .int .i64 yy5, .int .i64 yy6, .int .i64 yy7]) (.agg #[.int .i64 xx0, .int .i64 xx1, .int .i64 xx2, .int .i64 xx3, .int .i64 xx4, .int .i64 xx5, .int .i64 xx6, .int .i64 xx7])).run Tryz.prog w = .ok (.bool true) w := fun w => by
              have h := cel_eq (⟨yy0, yy1, yy2, yy3, yy4, yy5, yy6, yy7⟩ : Cel) (⟨xx0, xx1, xx2, xx3, xx4, xx5, xx6, xx7⟩ : Cel) w
              rw [decide_eq_true hyx] at h
              exact h
            have HNX := Lib.hid (show chgN p q (k + 1) = chgN p q k ++ [(⟨false, ⟨0, 0, 0, 0, 0, 0, 0, 0⟩⟩ : Chg)] from by rw [HR.out.2.2.2]; unfold chg1; rw [if_pos hyx])
            clear hyx
            go_upto_region 14 with fail
            rw [← hu1, ← hxb]
            clear hu1 hxb
            go_quiet (fail)
            obtain ⟨u2, hu2⟩ : ∃ u, u = u1.drewN nq := ⟨_, rfl⟩
            have bu2 : Below u1.heap.size u1 u2 := by rw [hu2]; exact below_drewN (Below.refl _ _) _
            have HO2 := Lib.hid (Own.below (Own.below HR.out.1 HR.out.2.1) bu2)
            have hl2 := HO2.out.heap 0 rfl
            have l2 := (cell_of_heap hl2 0).trans rfl
            have f2 := frozen_of_heap hl2 0
            have zl2 := heap_lt hl2
            rw [← hu2]
            have hk3 : k ≤ 1024 := by omega
            clear hu2 bu2 hl2 x0' x1' x2' x3' x4' x5' x6' x7' p0' p1' p2' p3' p4' p5' p6' p7'
            go_wp2_with (at_builtin; refine wpList_append_S (size := 9) rfl (.tmp 56) (.tmp 58) 151 rfl iC _ 72 Tryz.underlying151 hC0 hC1 hC2 (by decide) hC3 rfl (A := A') (n := k) (c := c') (xs := chgs (chgN p q k)) (fp := qo) (by simp [Act.eval]) ⟨u2.heap.size, 0, none⟩ (by simp [Act.eval]) [.bool false, .int .i64 0, .int .i64 0, .int .i64 0, .int .i64 0, .int .i64 0, .int .i64 0, .int .i64 0, .int .i64 0] (Own.owns (Own.below HO2.out ((Below.refl _ u2).alloc (Nat.le_refl _) (.cells #[.bool false, .int .i64 0, .int .i64 0, .int .i64 0, .int .i64 0, .int .i64 0, .int .i64 0, .int .i64 0, .int .i64 0] 153))) 1 rfl) rfl (fun j v hj => by rw [show (⟨u2.heap.size, 0, none⟩ : Addr).add j = ⟨u2.heap.size, j, none⟩ from by simp [Addr.add]; omega, World.cell?_alloc_new]; simpa using hj) (by intro u hu; simp at hu; rcases hu with rfl | rfl | rfl | rfl | rfl | rfl | rfl | rfl | rfl <;> rfl) (by omega) (by decide) ?_; intro g9 c9 w9 q1 q2 q3 q4; have bA := (Below.refl u2.heap.size u2).alloc (Nat.le_refl _) (.cells #[.bool false, .int .i64 0, .int .i64 0, .int .i64 0, .int .i64 0, .int .i64 0, .int .i64 0, .int .i64 0, .int .i64 0] 153); have oA := Own.below HO2.out bA; have hh9 := (q4.block lb (heap_lt (oA.heap 0 rfl)) (fun hm => oA.ne 0 1 rfl rfl (by decide) (x := lb) (y := lb) (by simp [It.fp]) hm rfl)).trans (oA.heap 0 rfl); have l9 := (cell_of_heap hh9 0).trans rfl; have f9 := frozen_of_heap hh9 0; have zl9 := heap_lt hh9; have H9 := Lib.hid (And.intro q1 (And.intro q2 (And.intro q4 (And.intro oA hh9)))); clear q1 q2 q3 q4 bA oA hh9)
            go_roundg (n2 - (k + 1))
            case measure => omega
            case rel =>
              obtain ⟨q1, q2, q4, oA, hh9⟩ := H9.out
              have o9 := Own.upd oA 1 rfl (i' := .own 153 9 (some ⟨g9, 0, none⟩) (k + 1) c9 (chgs (chgN p q k) ++ [Value.bool false, Value.int .i64 0, Value.int .i64 0, Value.int .i64 0, Value.int .i64 0, Value.int .i64 0, Value.int .i64 0, Value.int .i64 0, Value.int .i64 0]) [g9]) q4 q1 (fun y hy => by
                simp [It.fp] at hy
                subst hy
                rcases q2 with e | e
                · exact .inl e
                · exact .inr (Nat.le_of_eq e))
              have o10 := Own.set o9 0 rfl ((Keep.refl [lb] w9).setCell (p := ⟨lb, 0, none⟩) (.inl (by simp)) (.slice (some ⟨g9, 0, none⟩) (k + 1) c9)) (heap_set hh9 0 (.slice (some ⟨g9, 0, none⟩) (k + 1) c9))
              refine ⟨k + 1, some ⟨g9, 0, none⟩, c9, [g9], by omega, by go_num, ?_⟩
              have hcs : chgs (chgN p q k) ++ [Value.bool false, Value.int .i64 0, Value.int .i64 0, Value.int .i64 0, Value.int .i64 0, Value.int .i64 0, Value.int .i64 0, Value.int .i64 0, Value.int .i64 0] = chgs (chgN p q (k + 1)) := by rw [HNX.out, chgs_snoc]; rfl
              rw [hcs] at o10
              exact o10
          · have hE : ∀ w, (binOp .eql 73 (.agg #[.int .i64 yy0, .int .i64 yy1, .int .i64 yy2, .int .i64 yy3, .int .i64 yy4, .int .i64 yy5, .int .i64 yy6, .int .i64 yy7]) (.agg #[.int .i64 xx0, .int .i64 xx1, .int .i64 xx2, .int .i64 xx3, .int .i64 xx4, .int .i64 xx5, .int .i64 xx6, .int .i64 xx7])).run Tryz.prog w = .ok (.bool false) w := fun w => by
              have h := cel_eq (⟨yy0, yy1, yy2, yy3, yy4, yy5, yy6, yy7⟩ : Cel) (⟨xx0, xx1, xx2, xx3, xx4, xx5, xx6, xx7⟩ : Cel) w
              rw [decide_eq_false hyx] at h
              exact h
            have HNX := Lib.hid (show chgN p q (k + 1) = chgN p q k ++ [(⟨true, (⟨yy0, yy1, yy2, yy3, yy4, yy5, yy6, yy7⟩ : Cel)⟩ : Chg)] from by rw [HR.out.2.2.2]; unfold chg1; rw [if_neg hyx])
            clear hyx
            go_upto_region 14 with fail
            rw [← hu1, ← hxb]
            clear hu1 hxb
            go_quiet (fail)
            obtain ⟨u2, hu2⟩ : ∃ u, u = u1.drewN nq := ⟨_, rfl⟩
            have bu2 : Below u1.heap.size u1 u2 := by rw [hu2]; exact below_drewN (Below.refl _ _) _
            have HO2 := Lib.hid (Own.below (Own.below HR.out.1 HR.out.2.1) bu2)
            have hl2 := HO2.out.heap 0 rfl
            have l2 := (cell_of_heap hl2 0).trans rfl
            have f2 := frozen_of_heap hl2 0
            have zl2 := heap_lt hl2
            have w0' := (bu2.cell (p := ⟨xb, 0, none⟩) zx1).trans x0'
            have w1' := (bu2.cell (p := ⟨xb, 1, none⟩) zx1).trans x1'
            have w2' := (bu2.cell (p := ⟨xb, 2, none⟩) zx1).trans x2'
            have w3' := (bu2.cell (p := ⟨xb, 3, none⟩) zx1).trans x3'
            have w4' := (bu2.cell (p := ⟨xb, 4, none⟩) zx1).trans x4'
            have w5' := (bu2.cell (p := ⟨xb, 5, none⟩) zx1).trans x5'
            have w6' := (bu2.cell (p := ⟨xb, 6, none⟩) zx1).trans x6'
            have w7' := (bu2.cell (p := ⟨xb, 7, none⟩) zx1).trans x7'
            have zx2 := Nat.lt_of_lt_of_le zx1 bu2.size
            rw [← hu2]
            have hk3 : k ≤ 1024 := by omega
            clear hu2 bu2 hl2 x0' x1' x2' x3' x4' x5' x6' x7' p0' p1' p2' p3' p4' p5' p6' p7'
            go_wp2_with (at_builtin; refine wpList_append_S (size := 9) rfl (.tmp 60) (.tmp 63) 151 rfl iC _ 72 Tryz.underlying151 hC0 hC1 hC2 (by decide) hC3 rfl (A := A') (n := k) (c := c') (xs := chgs (chgN p q k)) (fp := qo) (by simp [Act.eval]) ⟨u2.heap.size, 0, none⟩ (by simp [Act.eval]) [.bool true, .int .i64 yy0, .int .i64 yy1, .int .i64 yy2, .int .i64 yy3, .int .i64 yy4, .int .i64 yy5, .int .i64 yy6, .int .i64 yy7] (Own.owns (Own.below HO2.out ((Below.refl _ u2).alloc (Nat.le_refl _) (.cells #[.bool true, .int .i64 yy0, .int .i64 yy1, .int .i64 yy2, .int .i64 yy3, .int .i64 yy4, .int .i64 yy5, .int .i64 yy6, .int .i64 yy7] 153))) 1 rfl) rfl (fun j v hj => by rw [show (⟨u2.heap.size, 0, none⟩ : Addr).add j = ⟨u2.heap.size, j, none⟩ from by simp [Addr.add]; omega, World.cell?_alloc_new]; simpa using hj) (by intro u hu; simp at hu; rcases hu with rfl | rfl | rfl | rfl | rfl | rfl | rfl | rfl | rfl <;> rfl) (by omega) (by decide) ?_; intro g9 c9 w9 q1 q2 q3 q4; have bA := (Below.refl u2.heap.size u2).alloc (Nat.le_refl _) (.cells #[.bool true, .int .i64 yy0, .int .i64 yy1, .int .i64 yy2, .int .i64 yy3, .int .i64 yy4, .int .i64 yy5, .int .i64 yy6, .int .i64 yy7] 153); have oA := Own.below HO2.out bA; have hh9 := (q4.block lb (heap_lt (oA.heap 0 rfl)) (fun hm => oA.ne 0 1 rfl rfl (by decide) (x := lb) (y := lb) (by simp [It.fp]) hm rfl)).trans (oA.heap 0 rfl); have l9 := (cell_of_heap hh9 0).trans rfl; have f9 := frozen_of_heap hh9 0; have zl9 := heap_lt hh9; have H9 := Lib.hid (And.intro q1 (And.intro q2 (And.intro q4 (And.intro oA hh9)))); clear q1 q2 q3 q4 bA oA hh9)
            go_roundg (n2 - (k + 1))
            case measure => omega
            case rel =>
              obtain ⟨q1, q2, q4, oA, hh9⟩ := H9.out
              have o9 := Own.upd oA 1 rfl (i' := .own 153 9 (some ⟨g9, 0, none⟩) (k + 1) c9 (chgs (chgN p q k) ++ [Value.bool true, Value.int .i64 yy0, Value.int .i64 yy1, Value.int .i64 yy2, Value.int .i64 yy3, Value.int .i64 yy4, Value.int .i64 yy5, Value.int .i64 yy6, Value.int .i64 yy7]) [g9]) q4 q1 (fun y hy => by
                simp [It.fp] at hy
                subst hy
                rcases q2 with e | e
                · exact .inl e
                · exact .inr (Nat.le_of_eq e))
              have o10 := Own.set o9 0 rfl ((Keep.refl [lb] w9).setCell (p := ⟨lb, 0, none⟩) (.inl (by simp)) (.slice (some ⟨g9, 0, none⟩) (k + 1) c9)) (heap_set hh9 0 (.slice (some ⟨g9, 0, none⟩) (k + 1) c9))
              refine ⟨k + 1, some ⟨g9, 0, none⟩, c9, [g9], by omega, by go_num, ?_⟩
              have hcs : chgs (chgN p q k) ++ [Value.bool true, Value.int .i64 yy0, Value.int .i64 yy1, Value.int .i64 yy2, Value.int .i64 yy3, Value.int .i64 yy4, Value.int .i64 yy5, Value.int .i64 yy6, Value.int .i64 yy7] = chgs (chgN p q (k + 1)) := by rw [HNX.out, chgs_snoc]; rfl
              rw [hcs] at o10
              exact o10
        · have hkn : k = n2 := by omega
          have HQ := Lib.hid (And.intro hO hkn)
          clear hO hkn
          go_wp2_with fail
          go_meet
          obtain ⟨hO, hkn⟩ := HQ.out
          rw [hkn] at hO
          exact ⟨A', c', qo, hO⟩
    case rest =>
    obtain ⟨A', c', qo, hO⟩ := hcut
    apply_assumption
    have bwx := HC.out.2.2.2.2.1.trans (hO.bel.mono HC.out.2.2.2.2.1.size)
    refine pp_t18 a b c x y z A B A' n1 n2 ca cb c' fx tx lb (chgN p q n2) w _ bwx HK.out.2.2.2.2.2.2.2.2.1 ((hO.bel.block fx zf5).trans HC.out.2.2.1) ((hO.bel.block tx zt5).trans HC.out.2.2.2.1) (by rw [chgN_len]; exact hO.heap 0 rfl) (by rw [chgN_len]; exact (hO.owns 1 rfl).rd) (by rw [chgN_len]; exact hn4) ?_ (chgN_ok HC.out.2.1.2.2.2.2.2 (Nat.le_of_eq HK.out.2.2.2.2.2.1)) (PpPost w a b c p x y z q) ?_ (fun _ _ _ h => h)
    · intro v hv
      have h1 := HC.out.1
      have h2 := HC.out.2.1
      simp only [List.mem_cons, List.not_mem_nil, or_false] at hv
      rcases hv with rfl | rfl | rfl | rfl <;> omega
    · intro w' hb
      have h9 : ppE a b c p x y z q = 0 := by
        unfold ppE
        rw [← HK.out.2.2.1, ← HK.out.2.2.2.1, if_neg (not_not_intro HC.out.2.2.2.2.2.1), if_neg (not_not_intro HC.out.2.2.2.2.2.2), if_neg (by have := HAB.out.1; simp [this.1, this.2])]
      refine ⟨?_, hb⟩
      rw [h9]
      unfold ppV
      rw [h9, if_pos rfl]
      unfold chgL
      rw [← HK.out.2.2.2.2.2.1]
  · have h9 : ppE a b c p x y z q = 1 := by
      unfold ppE
      rw [← HK.out.2.2.1, ← HK.out.2.2.2.1, if_neg (not_not_intro HC.out.2.2.2.2.2.1), if_neg (not_not_intro HC.out.2.2.2.2.2.2), if_pos (by by_cases h : a = x <;> simp_all)]
    have h8 : ppV a b c p x y z q = [] := by unfold ppV; rw [h9]; rfl
    have H9 := Lib.hid (And.intro h9 h8)
    clear h9 h8
    by_cases hax : a = x
    · have i1 : (a != x) = false := by simp [hax]
      have i2 : (b != y) = true := by simp; exact fun h => hab ⟨hax, h⟩
      clear hax hab
      go_wp2_with fail
      refine ⟨_, results_tmp2 rfl _ _ _, ?_, HC.out.2.2.2.2.1⟩
      rw [H9.out.1, H9.out.2]
      rfl
    · have i1 : (a != x) = true := by simpa using hax
      clear hax hab
      go_wp2_with fail
      refine ⟨_, results_tmp2 rfl _ _ _, ?_, HC.out.2.2.2.2.1⟩
      rw [H9.out.1, H9.out.2]
      rfl
end Go.Proofs.YtaokegobilphnaaGreatDoor
/- polynyalaw13.awake: the examples of the chapter are as they should be -/
namespace Go.Proofs.YtaokegobilphnaaGreatDoor
open Go Go.RowKit Go.Shelf Go.Proofs Sp Lg
set_option linter.unusedVariables false
set_option linter.unusedSimpArgs false

theorem aw_rdCh : rdCh awD = ((2, 1, 3), [awC, awC], 0, 0) := by
  have hr : rdRes awD (chL (lines awD)).2.2.1 (chL (lines awD)).2.2.2 = (0, 0) := by
    rw [aw_ch]
    unfold rdRes
    rw [if_neg (by have := aw_len; omega), if_neg (by simp)]
    exact aw_close
  unfold rdCh
  rw [hr, aw_ch]
  rfl
set_option maxRecDepth 100000 in
set_option maxHeartbeats 4000000 in
theorem awakeL_any (w : World) (E : Env w) : Calls Tryz.prog 9 #[] w fun e w' => e = .returned (.bool true) ∧ Below w.heap.size w w' := by
  obtain ⟨m0, hm0⟩ := E.1
  have EV : ∀ W, Below w.heap.size w W → Env W := fun W hW => Env.below E hW
  obtain ⟨Aa, hAa⟩ : ∃ v, v = bs (whole [97, 98, 99]) := ⟨_, rfl⟩
  obtain ⟨Ab, hAb⟩ : ∃ v, v = bs [69, 78, 68] := ⟨_, rfl⟩
  obtain ⟨Ac, hAc⟩ : ∃ v, v = bs (whole [76, 79, 71, 32, 48]) := ⟨_, rfl⟩
  obtain ⟨D, hD⟩ : ∃ v, v = bs awD := ⟨_, rfl⟩
  obtain ⟨S, hS⟩ : ∃ v, v = bs awS := ⟨_, rfl⟩
  obtain ⟨Z, hZ⟩ : ∃ v, v = bs (whole [80, 65, 84, 67, 72, 32, 50, 32, 49, 32, 51, 32, 51] ++ whole [69, 78, 68]) := ⟨_, rfl⟩
  obtain ⟨N, hN⟩ : ∃ v, v = bs [97, 32, 34, 98, 34] := ⟨_, rfl⟩
  have qn : (N.toList == ([97, 32, 34, 98, 34] : List UInt8)) = true := by rw [hN]; decide +kernel
  have qa : (Aa.toList != ([97, 98, 99, 32, 42, 48, 55, 54, 10] : List UInt8)) = false := by rw [hAa]; decide +kernel
  have qa2 : (Aa.toList == ([97, 98, 99, 32, 42, 48, 55, 54, 10] : List UInt8)) = true := by rw [hAa]; decide +kernel
  have qb : (Ab.toList != ([69, 78, 68] : List UInt8)) = false := by rw [hAb]; decide +kernel
  have qb2 : (Ab.toList == ([69, 78, 68] : List UInt8)) = true := by rw [hAb]; decide +kernel
  have qc : (Ac.toList != ([76, 79, 71, 32, 48, 32, 42, 48, 52, 52, 10] : List UInt8)) = false := by rw [hAc]; decide +kernel
  have qc2 : (Ac.toList == ([76, 79, 71, 32, 48, 32, 42, 48, 52, 52, 10] : List UInt8)) = true := by rw [hAc]; decide +kernel
  have kA : ∀ W, Below w.heap.size w W → Calls Tryz.prog 20 #[.string ⟨#[97, 98, 99]⟩] W fun e w' => e = .returned (.tuple #[.string Aa, .int .i64 0]) ∧ Below W.heap.size W w' := fun W hW => by
    have h := gChecked_any ⟨#[97, 98, 99]⟩ W (by decide) (EV W hW)
    unfold LgChkPost at h
    rw [show lgChkV (⟨#[97, 98, 99]⟩ : ByteArray).data.toList = whole [97, 98, 99] from by decide +kernel, show lgChkE (⟨#[97, 98, 99]⟩ : ByteArray).data.toList = 0 from by decide +kernel, ← hAa] at h
    exact h
  have kB : ∀ W, Below w.heap.size w W → Calls Tryz.prog 22 #[.string ⟨#[69, 78, 68, 32, 42, 49, 55, 50, 10]⟩] W fun e w' => e = .returned (.tuple #[.string Ab, .int .i64 0]) ∧ Below W.heap.size W w' := fun W hW => by
    have h := gContentE_any ⟨#[69, 78, 68, 32, 42, 49, 55, 50, 10]⟩ W (by decide) (EV W hW)
    unfold LgCntPost at h
    rw [show lgCntV (⟨#[69, 78, 68, 32, 42, 49, 55, 50, 10]⟩ : ByteArray).data.toList = [69, 78, 68] from by decide +kernel, show lgCntE (⟨#[69, 78, 68, 32, 42, 49, 55, 50, 10]⟩ : ByteArray).data.toList = 0 from by decide +kernel, ← hAb] at h
    exact h
  have kC : ∀ W, Below w.heap.size w W → Calls Tryz.prog 13 #[.slice none 0 0] W fun e w' => e = .returned (.tuple #[.string Ac, .int .i64 0]) ∧ Below W.heap.size W w' := fun W hW => by
    have h := gPrintLog_any [] none 0 W ⟨rfl, fun h => absurd h (by simp)⟩ (fun e he => by cases he) (fun e he => by cases he) (by simp) (EV W hW)
    unfold PlPost at h
    rw [show plV (exs []) = whole [76, 79, 71, 32, 48] from by decide +kernel, show ckL (exs []) = 0 from by decide +kernel, ← hAc] at h
    exact h
  have kD : ∀ W g, Below w.heap.size w W → Rd W 8 (some ⟨g, 0, none⟩) 2 (cels [awC, awC]) → Calls Tryz.prog 34 #[.agg #[.int .i64 2, .int .i64 1, .int .i64 3, .slice (some ⟨g, 0, none⟩) 2 2]] W fun e w' => e = .returned (.tuple #[.string D, .int .i64 0]) ∧ Below W.heap.size W w' := fun W g hW hr => by
    have h := gPrintChart_any 2 1 3 [awC, awC] (some ⟨g, 0, none⟩) 2 W hr (by simp) (EV W hW)
    unfold PcPost at h
    rw [aw_pc, aw_chartE, ← hD] at h
    exact h
  have kp : ∀ W, Calls Tryz.prog 57 #[.string D, .string ⟨#[67, 72, 65, 82, 84, 32, 50, 32, 49, 32, 51, 32, 42]⟩] W fun e w' => e = .returned (.bool true) ∧ w' = W := fun W => by
    have h := Tryz.strings_HasPrefix D ⟨#[67, 72, 65, 82, 84, 32, 50, 32, 49, 32, 51, 32, 42]⟩ W
    rw [show Lib.hasPrefix D.data.toList (⟨#[67, 72, 65, 82, 84, 32, 50, 32, 49, 32, 51, 32, 42]⟩ : ByteArray).data.toList = true from by rw [hD]; decide +kernel] at h
    exact h
  have ks : ∀ W, Calls Tryz.prog 58 #[.string D, .string ⟨#[10, 69, 78, 68, 32, 42, 49, 55, 50, 10]⟩] W fun e w' => e = .returned (.bool true) ∧ w' = W := fun W => by
    have h := Tryz.strings_HasSuffix D ⟨#[10, 69, 78, 68, 32, 42, 49, 55, 50, 10]⟩ W (by rw [hD]; decide +kernel)
    rw [show Lib.hasSuffix D.data.toList (⟨#[10, 69, 78, 68, 32, 42, 49, 55, 50, 10]⟩ : ByteArray).data.toList = true from by rw [hD]; decide +kernel] at h
    exact h
  have kc : ∀ W, Below w.heap.size w W → Calls Tryz.prog 59 #[.string D, .string ⟨#[10, 50, 32, 52, 48, 32, 54, 48, 32, 48, 32, 48, 32, 48, 32, 48, 32, 48, 32, 48, 32, 42]⟩] W fun e w' => e = .returned (.bool true) ∧ w' = W := fun W hW => by
    obtain ⟨m, hm⟩ := (EV W hW).1
    have h := Tryz.strings_Contains D ⟨#[10, 50, 32, 52, 48, 32, 54, 48, 32, 48, 32, 48, 32, 48, 32, 48, 32, 48, 32, 48, 32, 42]⟩ m W (by rw [hD]; decide +kernel) hm
    rw [show Lib.contains D.data.toList (⟨#[10, 50, 32, 52, 48, 32, 54, 48, 32, 48, 32, 48, 32, 48, 32, 48, 32, 48, 32, 48, 32, 42]⟩ : ByteArray).data.toList = true from by rw [hD]; decide +kernel] at h
    exact h
  have kc2 : ∀ W, Below w.heap.size w W → Calls Tryz.prog 59 #[.string S, .string ⟨#[10, 53, 32, 55, 32, 116, 111, 119, 32, 51, 32, 49, 50, 32, 34, 97, 32, 92, 34, 98, 92, 34, 34, 32, 42]⟩] W fun e w' => e = .returned (.bool true) ∧ w' = W := fun W hW => by
    obtain ⟨m, hm⟩ := (EV W hW).1
    have h := Tryz.strings_Contains S ⟨#[10, 53, 32, 55, 32, 116, 111, 119, 32, 51, 32, 49, 50, 32, 34, 97, 32, 92, 34, 98, 92, 34, 34, 32, 42]⟩ m W (by rw [hS]; decide +kernel) hm
    rw [show Lib.contains S.data.toList (⟨#[10, 53, 32, 55, 32, 116, 111, 119, 32, 51, 32, 49, 50, 32, 34, 97, 32, 92, 34, 98, 92, 34, 34, 32, 42]⟩ : ByteArray).data.toList = true from by rw [hS]; decide +kernel] at h
    exact h
  have kn : ∀ W, Calls Tryz.prog 60 #[.string Z, .string ⟨#[10]⟩] W fun e w' => e = .returned (.int .i64 2) ∧ w' = W := fun W => by
    have h := Tryz.strings_Count_one Z 10 W
    rw [show Lib.countByte Z.data.toList 10 = 2 from by rw [hZ]; decide +kernel] at h
    exact h
  have kL : ∀ W, Below w.heap.size w W → Calls Tryz.prog 16 #[.string S] W fun e w' => ∃ b off c, e = .returned (.tuple #[.slice (some ⟨b, off, none⟩) 1 c, .int .i64 0, .int .i64 0]) ∧ w'.cell? ⟨b, off + 4, none⟩ = some (.string N) ∧ b < w'.heap.size ∧ Below W.heap.size W w' := fun W hW => by
    have h := gReadLog_any S W (by rw [hS]; decide +kernel) (EV W hW)
    rw [show S.data.toList = awS from by rw [hS]] at h
    refine h.mono ?_
    rintro e w' ⟨A, c, es, rfl, hx, hr, _, hb⟩
    rw [aw_rd] at hx ⊢
    have hl : es.length = 1 := by have := congrArg List.length hx; simpa [exs] using this
    obtain ⟨x, rfl⟩ := List.length_eq_one_iff.1 hl
    obtain ⟨b, off, rfl, hlt, hc⟩ := hr.2 (by simp)
    refine ⟨b, off, c, rfl, ?_, hlt, hb⟩
    refine hc 4 _ ?_
    have hx2 : x.x = awX := by simpa [exs] using hx
    simp [entsV, entL, hx2, awX, hN]
  have kR : ∀ W, Below w.heap.size w W → Calls Tryz.prog 38 #[.string D] W fun e w' => ∃ A, e = .returned (.tuple #[.agg #[.int .i64 2, .int .i64 1, .int .i64 3, .slice A 2 2], .int .i64 0, .int .i64 0]) ∧ Below W.heap.size W w' := fun W hW => by
    have h := gReadChart_any D W (by rw [hD]; decide +kernel) (EV W hW)
    rw [show D.data.toList = awD from by rw [hD]] at h
    refine h.mono ?_
    rintro e w' ⟨A, rfl, _, _, hb⟩
    rw [aw_rdCh]
    exact ⟨A, rfl, hb⟩
  have kZ : ∀ W g h', Below w.heap.size w W → Rd W 8 (some ⟨g, 0, none⟩) 2 (cels [awC, awC]) → Rd W 8 (some ⟨h', 0, none⟩) 2 (cels [awC, awC]) → Calls Tryz.prog 36 #[.agg #[.int .i64 2, .int .i64 1, .int .i64 3, .slice (some ⟨g, 0, none⟩) 2 2], .agg #[.int .i64 2, .int .i64 1, .int .i64 3, .slice (some ⟨h', 0, none⟩) 2 2]] W fun e w' => e = .returned (.tuple #[.string Z, .int .i64 0]) ∧ Below W.heap.size W w' := fun W g h' hW hr hr2 => by
    have h := gPrintPatch_any 2 1 3 [awC, awC] (some ⟨g, 0, none⟩) 2 2 1 3 [awC, awC] (some ⟨h', 0, none⟩) 2 W hr hr2 (by simp) (by simp) (EV W hW)
    unfold PpPost at h
    rw [aw_pp, aw_ppE, ← hZ] at h
    exact h
  have kS : ∀ W eb ab, Below w.heap.size w W → W.heap[eb]? = some (.cells #[.int .i64 5, .int .i64 7, .string ⟨#[116, 111, 119]⟩, .slice (some ⟨ab, 0, none⟩) 2 2, .string ⟨#[97, 32, 34, 98, 34]⟩] 93 (0, 0)) → W.heap[ab]? = some (.cells #[.int .i64 3, .int .i64 12] 3 (0, 0)) → Calls Tryz.prog 13 #[.slice (some ⟨eb, 0, none⟩) 1 1] W fun e w' => e = .returned (.tuple #[.string S, .int .i64 0]) ∧ Below W.heap.size W w' := fun W eb ab hW h1 h2 => by
    have hr : Rd W 5 (some ⟨eb, 0, none⟩) 1 (entsV [⟨awX, some ⟨ab, 0, none⟩, 2⟩]) := ⟨rfl, fun _ => ⟨eb, 0, rfl, heap_lt h1, fun j u hu => by rw [Nat.zero_add]; exact (cell_of_heap h1 j).trans (by simpa [entsV, entL, awX, bs] using hu)⟩⟩
    have hE : EnsOk W [⟨awX, some ⟨ab, 0, none⟩, 2⟩] := fun e he => by
      rw [List.mem_singleton.1 he]
      exact ⟨rfl, fun _ => ⟨ab, 0, rfl, heap_lt h2, fun j u hu => by rw [Nat.zero_add]; exact (cell_of_heap h2 j).trans (by simpa [ints, awX] using hu)⟩⟩
    have h := gPrintLog_any [⟨awX, some ⟨ab, 0, none⟩, 2⟩] (some ⟨eb, 0, none⟩) 1 W hr hE (fun e he => by rw [List.mem_singleton.1 he]; exact ⟨(by decide : awX.verb.length ≤ 1000000), (by decide : awX.note.length ≤ 1000000), (by decide : awX.args.length ≤ 1000000)⟩) (by simp) (EV W hW)
    unfold PlPost at h
    rw [show exs [(⟨awX, some ⟨ab, 0, none⟩, 2⟩ : EnM)] = [awX] from rfl, aw_pl, aw_ckL, ← hS] at h
    exact h
  have HK := Lib.hid (And.intro kA (And.intro kB (And.intro kC (And.intro kD (And.intro kp (And.intro ks (And.intro kc (And.intro kc2 (And.intro kn (And.intro kL (And.intro kR (And.intro kZ kS))))))))))))
  clear kA kB kC kD kp ks kc kc2 kn kL kR kZ kS hAa hAb hAc hD hS hZ hN EV hm0 E
  go_enter Tryz.func9, Tryz.ntmps9
  go_upto_region 7 with (first
    | (go_at_call 20; refine (HK.out.1 w (Below.refl _ _)).mono ?_; rintro e w1 ⟨rfl, b1⟩; have H1 := Lib.hid b1; clear b1)
    | (go_at_call 22; refine (HK.out.2.1 w1 H1.out).mono ?_; rintro e w2 ⟨rfl, b2⟩; have H2 := Lib.hid (H1.out.trans (b2.mono H1.out.size)); clear b2)
    | (go_at_call 13; refine (HK.out.2.2.1 w2 H2.out).mono ?_; rintro e w3 ⟨rfl, b3⟩; have H3 := Lib.hid (H2.out.trans (b3.mono H2.out.size)); clear b3)
    | (go_at_call 56; refine (pair_any w3).mono ?_; rintro e w4 ⟨g, rfl, r4, b4⟩; have H4 := Lib.hid (And.intro (H3.out.trans (b4.mono H3.out.size)) r4); clear b4 r4)
    | (go_at_call 34; refine (HK.out.2.2.2.1 w4 g H4.out.1 H4.out.2).mono ?_; rintro e w5 ⟨rfl, b5⟩; have H5 := Lib.hid (H4.out.1.trans (b5.mono H4.out.1.size)); clear b5)
    | (go_at_call 57; refine (HK.out.2.2.2.2.1 w5).mono ?_; rintro e w9 ⟨rfl, h9⟩; have h9' := h9.symm; clear h9; subst h9')
    | (go_at_call 58; refine (HK.out.2.2.2.2.2.1 w5).mono ?_; rintro e w9 ⟨rfl, h9⟩; have h9' := h9.symm; clear h9; subst h9')
    | (go_at_call 59; refine (HK.out.2.2.2.2.2.2.1 w5 H5.out).mono ?_; rintro e w9 ⟨rfl, h9⟩; have h9' := h9.symm; clear h9; subst h9'))
  go_upto_region 8 with fail
  obtain ⟨ab, hab⟩ : ∃ b, b = w5.heap.size := ⟨_, rfl⟩
  obtain ⟨eb, heb⟩ : ∃ b, b = ab + 1 := ⟨_, rfl⟩
  obtain ⟨u6, hu6⟩ : ∃ u, u = (w5.alloc (.cells #[.int .i64 3, .int .i64 12] 3)).alloc (.cells #[.int .i64 5, .int .i64 7, .string ⟨#[116, 111, 119]⟩, .slice (some ⟨ab, 0, none⟩) 2 2, .string ⟨#[97, 32, 34, 98, 34]⟩] 93) := ⟨_, rfl⟩
  have b6 : Below w5.heap.size w5 u6 := by rw [hu6]; exact ((Below.refl _ _).alloc (Nat.le_refl _) _).alloc (by simp) _
  have ha6 : u6.heap[ab]? = some (.cells #[.int .i64 3, .int .i64 12] 3 (0, 0)) := by rw [hu6, hab]; exact heap_alloc' (heap_alloc_new _ _) _
  have he6 : u6.heap[eb]? = some (.cells #[.int .i64 5, .int .i64 7, .string ⟨#[116, 111, 119]⟩, .slice (some ⟨ab, 0, none⟩) 2 2, .string ⟨#[97, 32, 34, 98, 34]⟩] 93 (0, 0)) := by
    rw [hu6, heb, hab]
    have := heap_alloc_new (w5.alloc (.cells #[.int .i64 3, .int .i64 12] 3)) (.cells #[.int .i64 5, .int .i64 7, .string ⟨#[116, 111, 119]⟩, .slice (some ⟨w5.heap.size, 0, none⟩) 2 2, .string ⟨#[97, 32, 34, 98, 34]⟩] 93)
    rwa [World.size_alloc] at this
  have H6 := Lib.hid (And.intro (H5.out.trans (b6.mono H5.out.size)) (And.intro he6 ha6))
  rw [← hab, ← heb, ← hu6]
  clear b6 ha6 he6 hab heb hu6
  go_upto_region 11 with (first
    | (go_at_call 13; refine (HK.out.2.2.2.2.2.2.2.2.2.2.2.2 u6 eb ab H6.out.1 H6.out.2.1 H6.out.2.2).mono ?_; rintro e w7 ⟨rfl, b7⟩; have H7 := Lib.hid (H6.out.1.trans (b7.mono H6.out.1.size)); clear b7)
    | (go_at_call 16; refine (HK.out.2.2.2.2.2.2.2.2.2.1 w7 H7.out).mono ?_; rintro e w8 ⟨nb, no, nc, rfl, n8, zn8, b8⟩; have H8 := Lib.hid (H7.out.trans (b8.mono H7.out.size)); clear b8)
    | (go_at_call 38; refine (HK.out.2.2.2.2.2.2.2.2.2.2.1 w8 H8.out).mono ?_; rintro e w9 ⟨CA, rfl, b9⟩; have n9 := (b9.cell (p := ⟨nb, no + 4, none⟩) zn8).trans n8; have zn9 := Nat.lt_of_lt_of_le zn8 b9.size; have H9 := Lib.hid (H8.out.trans (b9.mono H8.out.size)); clear b9))
  obtain ⟨xb, hxb⟩ : ∃ b, b = w9.heap.size := ⟨_, rfl⟩
  obtain ⟨u10, hu10⟩ : ∃ u, u = w9.alloc (.cells #[.int .i64 2, .int .i64 1, .int .i64 3, .slice CA 2 2] 57) := ⟨_, rfl⟩
  have b10 : Below w9.heap.size w9 u10 := by rw [hu10]; exact (Below.refl _ _).alloc (Nat.le_refl _) _
  have hx10 : u10.heap[xb]? = some (.cells #[.int .i64 2, .int .i64 1, .int .i64 3, .slice CA 2 2] 57 (0, 0)) := by rw [hu10, hxb]; exact heap_alloc_new _ _
  have n10 := (b10.cell (p := ⟨nb, no + 4, none⟩) zn9).trans n9
  have zn10 := Nat.lt_of_lt_of_le zn9 b10.size
  have H10 := Lib.hid (And.intro (H9.out.trans (b10.mono H9.out.size)) hx10)
  rw [← hu10, ← hxb]
  clear b10 hx10 hxb hu10 n8 n9 zn8 zn9
  go_upto_region 12 with (first
    | (go_at_call 56; have hh := H11; clear hh; refine (pair_any w11).mono ?_; rintro e w12 ⟨g2, rfl, r12, b12⟩; have H12 := Lib.hid (And.intro (H11.out.1.trans (b12.mono H11.out.1.size)) (And.intro (H11.out.2.1.below b12) (And.intro r12 (H11.out.2.2.trans (b12.mono H11.out.2.2.size))))); clear b12 r12)
    | (go_at_call 56; refine (pair_any u10).mono ?_; rintro e w11 ⟨g1, rfl, r11, b11⟩; have H11 := Lib.hid (And.intro (H10.out.1.trans (b11.mono H10.out.1.size)) (And.intro r11 b11)); clear b11 r11)
    | (go_at_call 36; refine (HK.out.2.2.2.2.2.2.2.2.2.2.2.1 w12 g1 g2 H12.out.1 H12.out.2.1 H12.out.2.2.1).mono ?_; rintro e w13 ⟨rfl, b13⟩; have H13 := Lib.hid (And.intro (H12.out.1.trans (b13.mono H12.out.1.size)) (H12.out.2.2.2.trans (b13.mono H12.out.2.2.2.size))); clear b13))
  have n13 := (H13.out.2.cell (p := ⟨nb, no + 4, none⟩) zn10).trans n10
  have zn13 := Nat.lt_of_lt_of_le zn10 H13.out.2.size
  have hx13 := (H13.out.2.block xb (heap_lt H10.out.2)).trans H10.out.2
  have x13 := (cell_of_heap hx13 3).trans rfl
  have zx13 := heap_lt hx13
  clear hx13 n10 zn10
  go_wp2_with (first
    | (go_at_call 59; refine (HK.out.2.2.2.2.2.2.2.1 w13 H13.out.1).mono ?_; rintro e w14 ⟨rfl, h9⟩; have h9' := h9.symm; clear h9; subst h9')
    | (go_at_call 60; refine (HK.out.2.2.2.2.2.2.2.2.1 w13).mono ?_; rintro e w14 ⟨rfl, h9⟩; have h9' := h9.symm; clear h9; subst h9'))
  go_ret
  exact ⟨rfl, H13.out.1⟩
end Go.Proofs.YtaokegobilphnaaGreatDoor
/- A region that draws its order and only reads, in the round of a range over a function: one walk in the order of the text. No program is named here. -/
namespace Go.Proofs.YtaokegobilphnaaGreatDoor
open Go

def notDefer (o : Oper) : Bool := match o.op with
  | .defer _ => false
  | _ => true
theorem notDefer_ne {o : Oper} (h : notDefer o = true) : ∀ c, o.op ≠ .defer c := by
  intro c e
  simp [notDefer, e] at h

section
variable {F : Fence} {n : Nat} {P : Program} {ops : Array Oper} {C : World → Prop} {md : Region.Mode}
theorem quietR_op {o : Oper} {a : Act} {K : Act → Prop} {K' : Act → World → Prop} {Q' : Exit → Act → World → Prop} {w : World} (hd : notDefer o = true) (hw : C w) (h : ∀ a w', C w' → K a → K' a w')
    (ha : o.askedIn F P a C) (hh : o.quietIn F n P a C K) : o.wpIn F n P a w K' Q' := by
  obtain ⟨v, h1, h2⟩ := hh
  have h3 := h1 w hw
  unfold Oper.quietAtIn at h3
  refine ⟨ha w hw, ?_⟩
  rw [Oper.semAt_eq _ _ _ (notDefer_ne hd)]
  generalize (execOp a.eval o).run P w = r at *
  cases r with
  | halt x w' => simp only [Oper.quietUponIn] at h3
  | ok x w' =>
    cases x <;> simp only [Oper.quietUponIn] at h3 <;> simp only [Oper.uponIn]
    case value u => rw [h3.1, h3.2]; exact h _ _ hw h2
    case skip => rw [h3.1, ← h3.2]; exact h _ _ hw h2
    case enter f args =>
      obtain ⟨e1, hdp, hc⟩ := h3
      rw [e1]
      exact ⟨hdp, hc.mono fun e w'' ⟨he, hw''⟩ => by subst he; exact h _ _ hw'' h2⟩

theorem quietR_at (hd : ops.all notDefer = true) {i : Nat} {a : Act} {K : Act → Prop} {K' : Act → World → Prop} {Q' : Exit → Act → World → Prop} {w : World} (hC : C w) (h : ∀ a w', C w' → K a → K' a w')
    (hh : qOpIn F n P ops C i K a) : wpOpIn F n P ops Q' i K' a w := by
  unfold qOpIn at hh
  unfold wpOpIn
  cases ho : ops[i]? with
  | none => simp only [ho] at hh; exact h _ _ hC hh
  | some o =>
    simp only [ho] at hh ⊢
    obtain ⟨ha, hh⟩ := hh
    have hdo : notDefer o = true := by
      obtain ⟨hi, e⟩ := Array.getElem?_eq_some_iff.1 ho
      have := Array.all_eq_true.1 hd i hi
      rwa [e] at this
    split
    · rename_i hw; simp only [hw, if_true] at hh; exact quietR_op hdo hC h ha hh
    · rename_i hw; simp only [hw] at hh; exact ⟨ha w hC, h _ _ hC hh⟩

theorem quietR_any (hd : ops.all notDefer = true) {Q : Act → Prop} {Q' : Exit → Act → World → Prop} (hQ : ∀ a w, C w → Q a → Q' .normal a w) : ∀ (fuel : Nat) (listed : Array Bool) (a : Act) (w : World), C w →
    wpAnyQIn F n P md ops C Q fuel listed a → wpAnyIn F n P md ops Q' fuel listed a w
  | 0, _, _, _, hw, h => ⟨h.1, hQ _ _ hw h.2⟩
  | fuel + 1, _, _, _, hw, h => ⟨fun h0 => hQ _ _ hw (h.1 h0), fun i hi => quietR_at hd hw (fun a' w' hw' => quietR_any hd hQ fuel _ a' w' hw') (h.2 i hi)⟩
end

theorem region_quietR {F : Fence} {n : Nat} {P : Program} {id : Nat} {Q : Exit → Act → World → Prop} {a : Act} {w : World} {l : List Oper} (hd : l.toArray.all notDefer = true) (hm : P.follows .mixedOrders = true) (hB : Region.lexB .any l.toArray = true)
    (h : wpQuietIn F n P l.toArray (fun w' => ∃ n, w' = w.drewN n) (fun a' => ∀ w', (∃ n, w' = w.drewN n) → Q .normal a' w') l a) : (Code.region id l.toArray true).wpIn F n P Q a w := by
  simp only [Region.lexB, Bool.and_eq_true] at hB
  refine wpIn_region_any hm (quietR_any (C := fun w' => ∃ n, w' = w.drewN n) (Q := fun a' => ∀ w', (∃ n, w' = w.drewN n) → Q .normal a' w') hd (fun _ w' hw' h => h w' hw') _ _ _ _ ⟨1, rfl⟩ ?_)
  have := wpAnyQIn_lex (F := F) (n := n) (C := fun w' => ∃ n, w' = w.drewN n) (md := .any) hB.1 l 0 (Array.replicate l.toArray.size false) a (by simp) (by simpa using hB.2) h
  simpa using this
end Go.Proofs.YtaokegobilphnaaGreatDoor
/- polynyakit.SameInts, CopyInts -/
namespace Go.Proofs.YtaokegobilphnaaGreatDoor
open Go Go.RowKit Sp
set_option linter.unusedVariables false

theorem OwnA.capK {w : World} {e : TypeId} {A : Option Addr} {n c : Nat} {xs : List Value} {fp : List Nat} (h : OwnA w e A n c xs fp) : c ≤ 9223372036854775807 := by
  rcases h.2 with ⟨_, _, rfl, _⟩ | ⟨g, off, cur, _, _, _, _, h, _⟩
  · omega
  · exact h
theorem belowK_drewN {B : Nat} {w w' : World} (h : Below B w w') (n : Nat) : Below B w (w'.drewN n) := ⟨h.os, h.tape, h.output, h.size, h.block⟩

set_option maxRecDepth 100000 in
set_option maxHeartbeats 1000000 in
theorem sameInts_any (A : Option Addr) (c : Nat) (l : List Int) (B : Option Addr) (d : Nat) (w : World) (hr : Rd w 1 A l.length (ints l)) (hr2 : Rd w 1 B l.length (ints l)) (hm : l.length ≤ 9223372036854775807) :
    Calls Tryz.prog 30 #[.slice A l.length c, .slice B l.length d] w fun e w' => e = .returned (.bool true) ∧ Below w.heap.size w w' := by
  have HR := Lib.hid (And.intro hr hr2)
  clear hr hr2
  go_enter Tryz.func30, Tryz.ntmps30
  go_wp2_with fail
  go_loopw [5] (fun i wr => ∃ k : Nat, k ≤ l.length ∧ i = .int .i64 k ∧ Below w.heap.size w wr) (fun i _ => l.length - (intOf i).toNat)
  case atStart => exact ⟨0, Nat.zero_le _, rfl, Below.refl _ _⟩
  case round =>
    obtain ⟨k, hk, rfl, hb⟩ := hrel
    by_cases hlt : k < l.length
    · obtain ⟨b1, o1, rfl, z1, k1⟩ := HR.out.1.2 (by omega)
      obtain ⟨b2, o2, rfl, z2, k2⟩ := HR.out.2.2 (by omega)
      obtain ⟨x, hx⟩ : ∃ x, x = l.getD k 0 := ⟨_, rfl⟩
      have c1 := (hb.cell (p := ⟨b1, o1 + k, none⟩) z1).trans (k1 k _ (ints_get hlt))
      have c2 := (hb.cell (p := ⟨b2, o2 + k, none⟩) z2).trans (k2 k _ (ints_get hlt))
      rw [← hx] at c1 c2
      have hxx : (x != x) = false := by simp
      have n1 : (0 : Int) ≤ (k : Int) := by omega
      have n2 : (k : Int) < (l.length : Int) := by omega
      have HB := Lib.hid hb
      clear k1 k2 hx hb z1 z2
      go_upto_region 6 with fail
      go_quiet (fail)
      go_wp2_with fail
      go_roundw
      case measure => simp [intOf]; omega
      case rel => exact ⟨k + 1, by omega, by go_num, belowK_drewN HB.out _⟩
    · have HB := Lib.hid hb
      clear hb
      go_wp2_with fail
      go_ret
      exact ⟨rfl, HB.out⟩

theorem infoKI : (Tryz.prog.info? 3).map (fun i => (i.zero, i.size, i.bytes)) = some (some (.int .i64 0), 1, 8) := by kernel_rfl
set_option maxRecDepth 100000 in
set_option maxHeartbeats 1000000 in
theorem copyIntsO_any (A : Option Addr) (c : Nat) (l : List Int) (w : World) (hr : Rd w 1 A l.length (ints l)) (hl : l.length ≤ 100000000) :
    Calls Tryz.prog 61 #[.slice A l.length c] w fun e w' => ∃ A1 c1 q, e = .returned (.slice A1 l.length c1) ∧ OwnA w' 3 A1 l.length c1 (ints l) q ∧ (∀ g ∈ q, w.heap.size ≤ g) ∧ Below w.heap.size w w' := by
  obtain ⟨i0, hi, hz0, hz1, hz2⟩ := info_parts infoKI
  have HR := Lib.hid hr
  clear hr
  go_enter Tryz.func61, Tryz.ntmps61
  go_wp2_with (at_builtin
               refine wpList_append_As rfl (.tmp 4) (.tmp 5) 24 rfl i0 _ 8 Tryz.underlying24 hi hz0 hz1 hz2 rfl (A := none) (n := 0) (c := 0) (B := A) (m := l.length) (d := c) (xs := []) (fp := []) (ys := ints l) (by simp [Act.eval]) (by simp [Act.eval]) (OwnA.nil _ _) HR.out (by intro u hu; obtain ⟨x, _, rfl⟩ := List.mem_map.1 hu; rfl) (by omega) (by omega) ?_
               intro A' c' w' fp' h1 h2 h3
               have HQ := Lib.hid (And.intro h1 (And.intro h2 h3))
               clear h1 h2 h3)
  go_ret
  have h1 := HQ.out.1
  rw [Nat.zero_add, List.nil_append] at h1
  refine ⟨A', c', fp', by simp, h1, fun g hg => ?_, HQ.out.2.2.below (Nat.le_refl _) (by simp)⟩
  rcases HQ.out.2.1 g hg with h | h
  · simp at h
  · omega
theorem copyInts_any (A : Option Addr) (c : Nat) (l : List Int) (w : World) (hr : Rd w 1 A l.length (ints l)) (hl : l.length ≤ 100000000) :
    Calls Tryz.prog 61 #[.slice A l.length c] w fun e w' => ∃ A1 c1, e = .returned (.slice A1 l.length c1) ∧ Rd w' 1 A1 l.length (ints l) ∧ l.length ≤ c1 ∧ c1 ≤ 9223372036854775807 ∧ Below w.heap.size w w' := by
  refine (copyIntsO_any A c l w hr hl).mono ?_
  rintro e w' ⟨A1, c1, q, rfl, h, _, hb⟩
  exact ⟨A1, c1, rfl, h.rd, h.ge, h.capK, hb⟩
end Go.Proofs.YtaokegobilphnaaGreatDoor
