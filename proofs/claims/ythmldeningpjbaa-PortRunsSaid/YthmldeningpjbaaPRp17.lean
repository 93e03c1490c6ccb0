import Derived.Test.YthmldeningpjbaaPRp16
import Derived.Test.YthmldeningpjbaaPRp1
import Derived.Test.YthmldeningpjbaaPRp4
import Derived.Test.YthmldeningpjbaaPRp2
import Derived.Test.YthmldeningpjbaaPRp9
import Derived.BigQuiet
import Derived.Deep.DeepCutAuto
set_option linter.unusedVariables false
set_option linter.unusedSimpArgs false
set_option maxRecDepth 100000
set_option maxHeartbeats 40000000
namespace Go.Proofs.Ythmldeningpjbaa
open Go Go.RowKit Sp Pt
theorem rhas_any (A : Option Addr) (c : Nat) (l : List Int) (t : Int) (w : World) (hr : Rd w 1 A l.length (ints l)) (hm : l.length ≤ 9223372036854775807) :
    Calls Try.prog 106 #[.slice A l.length c, .int .i64 t] w fun e w' => e = .returned (.bool (l.contains t)) ∧ w = w' := by
  go_enter Try.func106, Try.ntmps106
  go_wp2_with fail
  go_loopg [5] (l.length) (fun g i wr => ∃ k : Nat, g + k = l.length ∧ i = .int .i64 k ∧ (l.take k).contains t = false ∧ w = wr)
  case atStart => exact ⟨0, rfl, rfl, by simp, rfl⟩
  case round =>
    obtain ⟨k, hk, rfl, hb, rfl⟩ := hrel;have HB := Lib.hid hb;clear hb;by_cases hlt : k < l.length
    · obtain ⟨b, off, rfl, hbb, hc⟩ := hr.2 (by omega);have c0 := hc k _ (iG_ hlt);obtain ⟨x, hx⟩ : ∃ x, x = l.getD k 0 := ⟨_, rfl⟩;rw [← hx] at c0;have hx' : l[k] = x := by rw [hx]; simp [hlt]
      have HX := Lib.hid hx';clear hx hx' hc hr;go_wp2_with fail
      · go_ret;refine ⟨?_, rfl⟩;have h1 : l.contains t = true := by
          rw [List.contains_iff_mem];have : l[k] ∈ l := List.getElem_mem _;rw [HX.out] at this
          rename_i h
          have h' : x = t := by simpa using h
          rw [← h']; exact this
        rw [h1]; rfl
      · go_roundg (gk - 1);case measure => omega
        case rel =>
          refine ⟨k + 1, by omega, by go_num, ?_, rfl⟩;rw [List.take_succ_eq_append_getElem hlt, HX.out];have h2 := HB.out;simp only [List.contains_eq_mem, decide_eq_false_iff_not, List.mem_append, List.mem_singleton] at h2 ⊢;rintro (h | h)
          · exact h2 h
          · simp_all
    · obtain rfl : k = l.length := by omega
      go_wp2_with fail
      go_ret;exact ⟨by have := HB.out; rw [List.take_length] at this; rw [this]; rfl, rfl⟩
theorem pathOk_take {n : Int} {l : List Int} {j : Nat} : ∀ m, m ≤ j → pathOk n (l.take j) m = pathOk n l m
  | 0, _ => rfl
  | m + 1, h => by
    have e1 : (l.take j).getD m 0 = l.getD m 0 := by simp [List.getD_eq_getElem?_getD, List.getElem?_take, show m < j from by omega]
    have e2 : (l.take j).take m = l.take m := by rw [List.take_take, Nat.min_eq_left (by omega)]
    rw [pathOk, pathOk, e1, e2, pathOk_take m (by omega)]
theorem path_pre {n : Nat} {l : List Int} {j : Nat} (hj : j ≤ l.length) (h : pathOk n l j = true) : j ≤ n := by
  have e : (l.take j).length = j := by rw [List.length_take]; omega
  have h1 : pathOk n (l.take j) (l.take j).length = true := by rw [e, pathOk_take j (Nat.le_refl _)]; exact h
  have := nodup_range_le (path_ok h1).1 (path_ok h1).2;omega
theorem checkR_chs {p : Prt} (h1 : within p.chs.length 1 6 = true) (h2 : within p.bts.length 1 4 = true) (h4 : p.chs.all chOk = false) : checkP p = 100 := by
  cases h3 : within p.tugs 0 20
  · exact checkP_2 h1 h2 h3
  · exact checkP_3 h1 h2 h3 h4
theorem checkR_bts {p : Prt} (h1 : within p.chs.length 1 6 = true) (h2 : within p.bts.length 1 4 = true) (h5 : p.bts.all (btOk p.chs.length) = false) : checkP p = 100 := by
  cases h4 : p.chs.all chOk
  · exact checkR_chs h1 h2 h4
  · cases h3 : within p.tugs 0 20
    · exact checkP_2 h1 h2 h3
    · exact checkP_4 h1 h2 h3 h4 h5
theorem rCheck_any (D : Nat) (Ac : Option Addr) (cc : Nat) (Ab : Option Addr) (cb : Nat) (p : Prt) (w : World) (hp : PrtB D w Ac cc Ab cb p) (hD : D ≤ w.heap.size) :
    Calls Try.prog 51 #[.agg (prtV Ac cc Ab cb p)] w fun e w' => e = .returned (.int .i64 (checkP p)) ∧ Below w.heap.size w w' := by
  obtain ⟨iI, hI0, hI1, hI2, hI3⟩ := info_parts infoKI;have b0 : Below w.heap.size w (w.alloc (.cells (prtV Ac cc Ab cb p) 79)) := (Below.refl _ _).alloc (Nat.le_refl _) _;cases h1 : within p.chs.length 1 6
  · go_enter Try.func51, Try.ntmps51
    go_wp2_with (go_at_call 102; refine (rin9_any _ _ _ _).mono ?_; rintro e w' ⟨rfl, rfl⟩)
    go_ret;exact ⟨by rw [checkP_1 (by rw [h1]; rfl)]; rfl, b0⟩
  cases h2 : within p.bts.length 1 4
  · go_enter Try.func51, Try.ntmps51
    go_wp2_with (go_at_call 102; refine (rin9_any _ _ _ _).mono ?_; rintro e w' ⟨rfl, rfl⟩)
    go_ret;exact ⟨by rw [checkP_1 (by rw [h1, h2]; rfl)]; rfl, b0⟩
  have hl1 : 1 ≤ p.chs.length ∧ p.chs.length ≤ 6 := by simp [within] at h1; omega
  have hl2 : 1 ≤ p.bts.length ∧ p.bts.length ≤ 4 := by simp [within] at h2; omega
  obtain ⟨bc, oc, rfl, hbc, hcc⟩ := hp.chs.2 (by omega);have HP := Lib.hid hp;have HB := Lib.hid hcc;clear hp hcc
  go_enter Try.func51, Try.ntmps51
  go_upto_region 3 with (go_at_call 102; refine (rin9_any _ _ _ _).mono ?_; rintro e w' ⟨rfl, rfl⟩)
  obtain ⟨W, hW⟩ : ∃ W, W = w.alloc (.cells (prtV (some ⟨bc, oc, none⟩) cc Ab cb p) 79) := ⟨_, rfl⟩;obtain ⟨bx, hbx⟩ : ∃ bx, bx = w.heap.size := ⟨_, rfl⟩;have fp : W.heap[bx]? = some (.cells (prtV (some ⟨bc, oc, none⟩) cc Ab cb p) 79 (0, 0)) := by rw [hW, hbx]; exact heap_alloc_new _ _
  rw [← hW, ← hbx];have b1 : Below w.heap.size w W := by rw [hW]; exact b0
  have f0 : W.cell? ⟨bx, 0, none⟩ = some (.slice (some ⟨bc, oc, none⟩) p.chs.length cc) := (cOH fp 0).trans rfl;have f1 : W.cell? ⟨bx, 1, none⟩ = some (.slice Ab p.bts.length cb) := (cOH fp 1).trans rfl;have f2 : W.cell? ⟨bx, 2, none⟩ = some (.int .i64 p.tugs) := (cOH fp 2).trans rfl;have hxW := hL_ fp;have HW := Lib.hid (And.intro b1 (And.intro h1 h2));clear hW hbx fp b0 b1 h1 h2;have hbcW : bc < W.heap.size := by have := HW.out.1.size; omega
  go_wp2_with fail
  go_loopg [3] (p.chs.length) (fun g i wr => ∃ k : Nat, g + k = p.chs.length ∧ i = .int .i64 k ∧ (p.chs.take k).all chOk = true ∧ Keep [] W wr)
  case atStart => exact ⟨0, rfl, rfl, by simp, Keep.refl _ _⟩
  case round =>
    obtain ⟨k, hk, rfl, hok, hK⟩ := hrel;have g0 := hK.cell f0 (by simp);have hxr : bx < wr.heap.size := by have := hK.size; omega
    by_cases hlt : k < p.chs.length
    · obtain ⟨s0, s1, s2⟩ := chcs_get hlt;obtain ⟨x, hx⟩ : ∃ x, x = p.chs[k] := ⟨_, rfl⟩;rw [← hx] at s0 s1 s2;have bB : Below w.heap.size w wr := HW.out.1.trans (hK.below HW.out.1.size (by simp));have cw : ∀ {o : Nat} {u : Value}, w.cell? ⟨bc, o, none⟩ = some u → wr.cell? ⟨bc, o, none⟩ = some u := fun h => (bB.cell (p := ⟨bc, _, none⟩) (show bc < w.heap.size by omega)).trans h;have d0 := cw (HB.out _ _ s0);have d1 : wr.cell? ⟨bc, oc + k * 3 + 1, none⟩ = some (.int .i64 x.frost) := cw (HB.out _ _ s1);have d2 : wr.cell? ⟨bc, oc + k * 3 + 2, none⟩ = some (.int .i64 x.clear) := cw (HB.out _ _ s2);have hbl : bc < wr.heap.size := by have := hK.size; omega
      have HI := Lib.hid (And.intro hok (And.intro hK (And.intro bB hx)));have n2 : (k : Int) < (p.chs.length : Int) := by omega
      clear s0 s1 s2 hok hK hx bB cw f0 f1 f2;go_wp2_with (go_at_call 102; refine (rin9_any _ _ _ _).mono ?_; rintro e w' ⟨rfl, rfl⟩)
      any_goals (go_ret; refine ⟨?_, HI.out.2.2.1.alloc HI.out.2.2.1.size _⟩; rw [checkR_chs HW.out.2.1 HW.out.2.2 (all_not hlt (by rw [← HI.out.2.2.2]; simp_all [chOk]))]; rfl)
      go_roundg (gk - 1);case measure => omega
      case rel => exact ⟨k + 1, by omega, by go_num, all_take_succ hlt HI.out.1 (by rw [← HI.out.2.2.2]; simp_all [chOk]), HI.out.2.1.alloc _⟩
    · obtain rfl : k = p.chs.length := by omega
      have hal : p.chs.all chOk = true := by rwa [List.take_length] at hok
      have HC := Lib.hid (And.intro hal hK);have f1' := hK.cell f1 (by simp);have f2' := hK.cell f2 (by simp);clear hal hok hK f1 hk f0 f2;obtain ⟨w1, hw1⟩ : ∃ w1, w1 = wr := ⟨_, rfl⟩;subst hw1;go_wp2_with fail
      go_loopg [5] (p.bts.length) (fun g i wq => ∃ k : Nat, g + k = p.bts.length ∧ i = .int .i64 k ∧ (p.bts.take k).all (btOk p.chs.length) = true ∧ Keep [] w1 wq)
      case atStart => exact ⟨0, rfl, rfl, by simp, Keep.refl _ _⟩
      case round =>
        obtain ⟨w2, hw2⟩ : ∃ w2, w2 = wr := ⟨_, rfl⟩;subst hw2;obtain ⟨k, hk, rfl, hok, hK⟩ := hrel;have g1 := hK.cell f1' (by simp);have g0' := hK.cell g0 (by simp);have g2 := hK.cell f2' (by simp);have hxq : bx < w2.heap.size := by have := hK.size; omega
        by_cases hlt : k < p.bts.length
        · obtain ⟨b, off, Ak, ck, hAb, hbD, d1, d2, d3⟩ := HP.out.bts k hlt;obtain ⟨x, hx⟩ : ∃ x, x = p.bts[k] := ⟨_, rfl⟩;rw [← hx] at d1 d2 d3;obtain ⟨dp, pth⟩ := x;simp only at d1 d2 d3;have bB : Below w.heap.size w w2 := (HW.out.1.trans (HC.out.2.below HW.out.1.size (by simp))).trans (hK.below (by have := HW.out.1.size; have := HC.out.2.size; omega) (by simp));have d1' := (bB.cell (p := ⟨b, off + k * 2, none⟩) (show b < w.heap.size by omega)).trans d1;have d2' := (bB.cell (p := ⟨b, off + k * 2 + 1, none⟩) (show b < w.heap.size by omega)).trans d2;have d3' : PathB w.heap.size w2 Ak ck pth := (d3.mono hD).below bB;have hbl : b < w2.heap.size := by have := bB.size; omega
          have hkb : btOk p.chs.length p.bts[k] = (within dp 10 3000 && (!decide (pth.length = 0) && pathOk p.chs.length pth pth.length)) := by rw [← hx]; rfl
          have hbad : btOk p.chs.length p.bts[k] = false → checkP p = 100 := fun h => checkR_bts HW.out.2.1 HW.out.2.2 (all_not hlt h);have hpc := d3'.2.1;have hpm := d3'.2.2.1;have HI := Lib.hid (And.intro hok (And.intro hK (And.intro bB (And.intro hkb (And.intro hbad d3')))));have n2 : (k : Int) < (p.bts.length : Int) := by omega
          subst hAb;clear hok hK hx bB d1 d2 d3 d3' hkb hbad f1' f2' g0 g2;cases hz : within dp 10 3000
          · go_wp2_with (go_at_call 102; refine (rin9_any _ _ _ _).mono ?_; rintro e w' ⟨rfl, rfl⟩)
            go_ret;exact ⟨by rw [HI.out.2.2.2.2.1 (by rw [HI.out.2.2.2.1, hz]; rfl)]; rfl, HI.out.2.2.1.alloc HI.out.2.2.1.size _⟩
          by_cases hn : pth.length = 0
          · rw [hn] at d2' hpc;go_wp2_with (go_at_call 102; refine (rin9_any _ _ _ _).mono ?_; rintro e w' ⟨rfl, rfl⟩)
            go_ret;exact ⟨by rw [HI.out.2.2.2.2.1 (by rw [HI.out.2.2.2.1, hz, hn]; rfl)]; rfl, HI.out.2.2.1.alloc HI.out.2.2.1.size _⟩
          have hn0 : ((pth.length : Int) == 0) = false := beq_eq_false_iff_ne.2 (by omega);obtain ⟨gb, rfl⟩ : ∃ gb, gb = gk := ⟨_, rfl⟩;go_upto_region 15 with (go_at_call 102; refine (rin9_any _ _ _ _).mono ?_; rintro e w' ⟨rfl, rfl⟩)
          obtain ⟨W3, hW3⟩ : ∃ W, W = w2.alloc (.cells #[.int .i64 dp, .slice Ak pth.length ck] 172) := ⟨_, rfl⟩;obtain ⟨bq, hbq⟩ : ∃ bq, bq = w2.heap.size := ⟨_, rfl⟩;have b3 : Below w2.heap.size w2 W3 := by rw [hW3]; exact (Below.refl _ _).alloc (Nat.le_refl _) _
          have q1 : W3.cell? ⟨bq, 1, none⟩ = some (.slice Ak pth.length ck) := by rw [hW3, hbq]; simp [World.cell?_alloc_new]
          have hqw : bq < W3.heap.size := by rw [hW3, hbq]; simp
          have e0 := (b3.cell (p := ⟨bx, 0, none⟩) (show bx < w2.heap.size from hxq)).trans g0';have e1 := (b3.cell (p := ⟨bx, 1, none⟩) (show bx < w2.heap.size from hxq)).trans g1;have p3 : PathB w.heap.size W3 Ak ck pth := HI.out.2.2.2.2.2.below (b3.mono HI.out.2.2.1.size);obtain ⟨bp, op, hAk, hbp, hpc3⟩ := p3.1.2 (by omega);have bwp : bp < W3.heap.size := by have := b3.size; have := HI.out.2.2.1.size; omega
          have hpl6 := p3.2.2.1;rw [← hW3, ← hbq];have H3 := Lib.hid (And.intro b3 (And.intro p3 (And.intro hz (And.intro hpc3 (show ¬ pth.length = 0 from hn)))));have hxq3 : bx < W3.heap.size := by have := b3.size; omega
          subst hAk;clear hW3 hbq b3 g0' g1 d1' d2' p3 hz hpc3 hpc;have hnn : 0 < pth.length := by omega
          clear hn hn0;go_wp2_with fail
          go_loopg [7, 8] (pth.length) (fun g o i wi => ∃ (j : Nat) (Ao : Option Addr) (co : Nat) (q : List Nat), g + j = pth.length ∧ i = .int .i64 j ∧ o = .slice Ao j co ∧ OwnA wi 3 Ao j co (ints (pth.take j)) q ∧ (∀ g ∈ q, W3.heap.size ≤ g) ∧ pathOk p.chs.length pth j = true ∧ j ≤ 6 ∧ Keep [] W3 wi)
          case atStart => exact ⟨0, none, 0, [], rfl, rfl, rfl, by simpa [ints] using OwnA.nil _ _, by simp, rfl, by omega, Keep.refl _ _⟩
          case round =>
            obtain ⟨j, Ao, co, q, hj, rfl, rfl, hO, hq, hjk, hj6, hK3⟩ := hrel;have k1 := hK3.cell q1 (by simp);have k0 := hK3.cell e0 (by simp);have zq : bq < wr.heap.size := by have := hK3.size; omega
            have zx : bx < wr.heap.size := by have := hK3.size; omega
            by_cases hlj : j < pth.length
            · obtain ⟨n, hn⟩ : ∃ n, n = pth.getD j 0 := ⟨_, rfl⟩;have c0 : wr.cell? ⟨bp, op + j, none⟩ = some (.int .i64 n) := by rw [hn]; exact hK3.cell (H3.out.2.2.2.1 j _ (iG_ hlj)) (by simp)
              have zbp : bp < wr.heap.size := by have := hK3.size; omega
              have hS : pathOk p.chs.length pth (j + 1) = (pathOk p.chs.length pth j && (within n 0 ((p.chs.length : Int) - 1) && !(pth.take j).contains n)) := by rw [hn]; rfl
              have hN : (within n 0 ((p.chs.length : Int) - 1) && !(pth.take j).contains n) = false → pathOk p.chs.length pth pth.length = false := fun h => pathOk_no hlj (by rw [← hn]; exact h);have htk : (pth.take j).length = j := by rw [List.length_take]; omega
              have hct : ∀ m, Calls Try.prog 106 #[.slice Ao j co, .int .i64 n] (wr.drewN m) fun e w' => e = .returned (.bool ((pth.take j).contains n)) ∧ w' = wr.drewN m := fun m => by
                have h := rhas_any Ao co (pth.take j) n (wr.drewN m) (by rw [htk]; exact (hO.drewN m).rd) (by omega);rw [htk] at h;exact h.mono fun e w' ⟨h1, h2⟩ => ⟨h1, h2.symm⟩
              have hle : within n 0 ((p.chs.length : Int) - 1) = true → (pth.take j).contains n = false → j + 1 ≤ 6 := fun h h' => by
                have h7 : pathOk p.chs.length pth (j + 1) = true := by rw [hS, hjk, h, h']; rfl
                have := path_pre (by omega) h7;omega
              obtain ⟨z, hzz⟩ : ∃ z, z = (pth.take j).contains n := ⟨_, rfl⟩;rw [← hzz] at hct hS hN hle;have n3 : (j : Int) < (pth.length : Int) := by omega
              have HJ := Lib.hid (And.intro hct (And.intro hS (And.intro hN (And.intro hjk (And.intro hn (And.intro hO (And.intro hq (And.intro hK3 hle))))))));have hin : ∀ m, Calls Try.prog 102 #[.int .i64 n, .int .i64 0, .int .i64 ((p.chs.length : Int) - 1)] (wr.drewN m) fun e w' => e = .returned (.bool (within n 0 ((p.chs.length : Int) - 1))) ∧ w' = wr.drewN m := fun m => (rin9_any _ _ _ _).mono fun e w' ⟨h1, h2⟩ => ⟨h1, h2.symm⟩;clear hct hS hN hjk hn hzz hO hq hK3 hle;cases hw : within n 0 ((p.chs.length : Int) - 1)
              · rw [hw] at hin;have HD := Lib.hid hin;clear hin;go_upto_region 19 with fail
                go_quiet ((go_at_call 102; with_reducible exact Calls.quiet_of_same (HD.out _)));go_wp2_with fail
                go_ret;refine ⟨?_, (HI.out.2.2.1.trans (H3.out.1.mono HI.out.2.2.1.size)).trans ((HJ.out.2.2.2.2.2.2.2.1.drewN _).below (by have := HI.out.2.2.1.size; have := H3.out.1.size; omega) (by simp))⟩;rw [HI.out.2.2.2.2.1 (by rw [HI.out.2.2.2.1, H3.out.2.2.1, HJ.out.2.2.1 (by rw [hw]; rfl)]; simp)]; rfl
              · rw [hw] at hin;have HD := Lib.hid hin;clear hin;cases z
                · go_upto_region 19 with fail
                  go_quiet ((first | (go_at_call 102; with_reducible exact Calls.quiet_of_same (HD.out _)) | (go_at_call 106; with_reducible exact Calls.quiet_of_same (HJ.out.1 _))));have hle := HJ.out.2.2.2.2.2.2.2.2 hw rfl
                  go_wp2_with (at_builtin
                               refine wpList_append_A rfl (.tmp 98) (.tmp 104) 33 rfl iI _ 8 Try.underlying33 hI0 hI1 hI2 hI3 rfl (A := Ao) (n := j) (c := co) (xs := ints (pth.take j)) (fp := q) (by simp [Act.eval]) _ (by simp [Act.eval]) (.int .i64 n) (((HJ.out.2.2.2.2.2.1.drewN _).alloc _)) (cell_new_one _ _ _) rfl (by omega) (by omega) ?_;intro g off' c' w4 e1 e2 e3 e4;have HQ := Lib.hid (And.intro e1 (And.intro e2 e4));clear e1 e2 e3 e4)
                  go_roundg (gk - 1);case measure => omega
                  case rel =>
                    obtain ⟨h1, h2, h3, h4, h5, h6, h7, h8, h9⟩ := HJ.out;obtain ⟨e1, e2, e4⟩ := HQ.out;refine ⟨j + 1, some ⟨g, off', none⟩, c', [g], by omega, by go_num, by go_num, ?_, ?_, by rw [h2, h4, hw]; rfl, hle, ((h8.drewN _).alloc _).trans e4 (fun y hy => .inr (h7 y hy))⟩
                    · rw [List.take_succ_eq_append_getElem hlj];have : pth[j] = n := by rw [h5]; simp [hlj]
                      rw [this];simpa [ints] using e1
                    · intro y hy;have e : y = g := by simpa using hy
                      subst e;rcases e2 with e | e
                      · exact h7 y e
                      · have := h8.size; simp at e; omega
                · go_upto_region 19 with fail
                  go_quiet ((first | (go_at_call 102; with_reducible exact Calls.quiet_of_same (HD.out _)) | (go_at_call 106; with_reducible exact Calls.quiet_of_same (HJ.out.1 _))));go_wp2_with fail
                  go_ret;refine ⟨?_, (HI.out.2.2.1.trans (H3.out.1.mono HI.out.2.2.1.size)).trans ((HJ.out.2.2.2.2.2.2.2.1.drewN _).below (by have := HI.out.2.2.1.size; have := H3.out.1.size; omega) (by simp))⟩;rw [HI.out.2.2.2.2.1 (by rw [HI.out.2.2.2.1, H3.out.2.2.1, HJ.out.2.2.1 (by rw [hw]; rfl)]; simp)]; rfl
            · obtain rfl : j = pth.length := by omega
              have HL := Lib.hid (And.intro hjk hK3);clear hjk hK3 hO hq;go_wp2_with fail
              go_roundg (gb - 1);case measure => omega
              case rel =>
                refine ⟨k + 1, by omega, by go_num, all_take_succ hlt HI.out.1 (by rw [HI.out.2.2.2.1, H3.out.2.2.1, HL.out.1]; simp; have := H3.out.2.2.2.2; intro h; rw [h] at this; simp at this), ?_⟩;exact (HI.out.2.1.trans (Keep.of_below (S := []) H3.out.1) (by simp)).trans HL.out.2 (by simp)
        · obtain rfl : k = p.bts.length := by omega
          have hal : p.bts.all (btOk p.chs.length) = true := by rwa [List.take_length] at hok
          have bB : Below w.heap.size w w2 := (HW.out.1.trans (HC.out.2.below HW.out.1.size (by simp))).trans (hK.below (by have := HW.out.1.size; have := HC.out.2.size; omega) (by simp));have HE := Lib.hid (And.intro hal bB);clear hal hok hK bB;cases ht : within p.tugs 0 20
          · go_wp2_with (go_at_call 102; refine (rin9_any _ _ _ _).mono ?_; rintro e w' ⟨rfl, rfl⟩)
            go_ret;exact ⟨by rw [checkP_2 HW.out.2.1 HW.out.2.2 ht]; rfl, HE.out.2⟩
          · go_wp2_with (go_at_call 102; refine (rin9_any _ _ _ _).mono ?_; rintro e w' ⟨rfl, rfl⟩)
            go_ret;exact ⟨by rw [checkP_5 HW.out.2.1 HW.out.2.2 ht HC.out.1 HE.out.1]; rfl, HE.out.2⟩
end Go.Proofs.Ythmldeningpjbaa
namespace Go.Proofs.Ythmldeningpjbaa.Pt
open Sp
structure Mt where
  twice : Bool
  met : List Int
  tugs : Int
def mHit (t : Mt) (n : Int) : Mt := ⟨t.twice || t.met.contains n, t.met ++ [n], t.tugs⟩
def mCall (p : Prt) (h : Int) (t : Mt) (c : Cal) : Mt := if c.hour = h then (bt p c.berth).path.foldl mHit ⟨t.twice, t.met, t.tugs + c.tugs⟩ else t
def mSwp (h : Int) (t : Int) (s : Swp) : Int := if s.hour = h then t + s.tugs else t
def mHour (p : Prt) (l : Pln) (h : Nat) : Mt := l.calls.foldl (mCall p h) ⟨false, [], 0⟩
def mTugs (p : Prt) (l : Pln) (h : Nat) : Int := l.swps.foldl (mSwp h) (mHour p l h).tugs
def rFin (p : Prt) (l : Pln) : Nat → Nat → Int
  | _, 0 => 0
  | k, n + 1 => if (mHour p l k).twice then 10 else if p.tugs < mTugs p l k then 9 else rFin p l (k + 1) n
structure TR (H : Nat) (t : Tly) (m : Nat → Mt) : Prop where
  l1 : t.tugs.length = H
  l2 : t.twice.length = H
  tw : ∀ h, h < H → t.twice.getD h false = (m h).twice
  tg : ∀ h, h < H → t.tugs.getD h 0 = (m h).tugs
  ht : ∀ h, h < H → ∀ n, ((h : Int), n) ∈ t.hits ↔ n ∈ (m h).met
theorem TR.hit {H : Nat} {t : Tly} {m : Nat → Mt} (r : TR H t m) {k : Nat} (hk : k < H) (n : Int) : TR H (hit1 k t n) (fun h => if h = k then mHit (m h) n else m h) := by
  have e1 : (k : Int).toNat = k := Int.toNat_natCast k;have e2 : decide (1 < t.hits.count ((k : Int), n) + 1) = (m k).met.contains n := by
    rw [Bool.eq_iff_iff, decide_eq_true_eq, List.contains_iff_mem, ← r.ht k hk n, ← List.count_pos_iff];omega
  refine ⟨r.l1, by simp [hit1, r.l2], fun h hh => ?_, fun h hh => ?_, fun h hh x => ?_⟩
  · simp only [hit1, e1];rw [List.getD_eq_getElem?_getD, List.getElem?_set];by_cases e : h = k
    · subst e;rw [if_pos rfl, if_pos rfl, if_pos (by rw [r.l2]; exact hk), e2, r.tw h hh];rfl
    · rw [if_neg (fun x => e x.symm), if_neg e, ← List.getD_eq_getElem?_getD, r.tw h hh]
  · by_cases e : h = k
    · subst e; simpa [hit1, mHit] using r.tg h hh
    · simpa [hit1, e] using r.tg h hh
  · by_cases e : h = k
    · subst e;have := r.ht h hh x;simp [hit1, mHit, this, or_comm]
    · have := r.ht h hh x;simp [hit1, e, this];intro h1;omega
theorem TR.hits {H : Nat} {k : Nat} (hk : k < H) : ∀ (l : List Int) {t : Tly} {m : Nat → Mt}, TR H t m → TR H (l.foldl (hit1 k) t) (fun h => if h = k then l.foldl mHit (m h) else m h)
  | [], t, m, r => by simpa using r
  | n :: l, t, m, r => by
    have := TR.hits hk l (r.hit hk n);refine Eq.mp ?_ this
    congr 1
    funext h
    by_cases e : h = k
    · simp [e]
    · simp [e]
theorem TR.call {H : Nat} {p : Prt} {t : Tly} {m : Nat → Mt} (r : TR H t m) (c : Cal) (h0 : 0 ≤ c.hour) (h1 : c.hour < H) : TR H (tlyCall p t c) (fun h => mCall p h (m h) c) := by
  obtain ⟨k, hk⟩ : ∃ k : Nat, c.hour = k := ⟨c.hour.toNat, by omega⟩;have hkH : k < H := by omega
  have e1 : (k : Int).toNat = k := Int.toNat_natCast k;have r1 : TR H ⟨setI t.tugs k (getI t.tugs k + c.tugs), t.twice, t.hits⟩ (fun h => if h = k then ⟨(m h).twice, (m h).met, (m h).tugs + c.tugs⟩ else m h) := by
    refine ⟨by simp [setI, r.l1], r.l2, fun h hh => ?_, fun h hh => ?_, fun h hh x => ?_⟩
    · have := r.tw h hh;by_cases e : h = k <;> simp [e] <;> simpa [e] using this
    · simp only [setI, getI, e1];rw [List.getD_eq_getElem?_getD, List.getElem?_set];by_cases e : h = k
      · subst e;rw [if_pos rfl, if_pos rfl, if_pos (by rw [r.l1]; exact hh), r.tg h hh];rfl
      · rw [if_neg (fun x => e x.symm), if_neg e, ← List.getD_eq_getElem?_getD, r.tg h hh]
    · have := r.ht h hh x;by_cases e : h = k <;> simp [e] <;> simpa [e] using this
  have r2 := TR.hits hkH (bt p c.berth).path r1;refine Eq.mp ?_ r2;unfold tlyCall;rw [hk]
  congr 1
  funext h
  unfold mCall;rw [hk];by_cases e : h = k
  · subst e; simp
  · have : ¬ ((k : Int) = (h : Int)) := by omega
    simp [e, this]
theorem TR.calls {H : Nat} {p : Prt} : ∀ (l : List Cal) {t : Tly} {m : Nat → Mt}, TR H t m → (∀ c ∈ l, 0 ≤ c.hour ∧ c.hour < H) → TR H (l.foldl (tlyCall p) t) (fun h => l.foldl (mCall p h) (m h))
  | [], t, m, r, _ => r
  | c :: l, t, m, r, h => TR.calls l (r.call c (h c (by simp)).1 (h c (by simp)).2) (fun x hx => h x (by simp [hx]))
theorem tr_zero (H : Nat) : TR H (tly0 H) (fun _ => ⟨false, [], 0⟩) := by
  refine ⟨by simp [tly0], by simp [tly0], fun h hh => ?_, fun h hh => ?_, fun h hh n => by simp [tly0]⟩
  · simp [tly0, List.getD_eq_getElem?_getD, hh]
  · simp [tly0, List.getD_eq_getElem?_getD, hh]
theorem swps_get {H : Nat} : ∀ (l : List Swp) {t : List Int}, t.length = H → (∀ s ∈ l, 0 ≤ s.hour ∧ s.hour < H) → ∀ h, h < H → (l.foldl addSwp t).getD h 0 = l.foldl (mSwp h) (t.getD h 0)
  | [], t, _, _, h, _ => rfl
  | s :: l, t, ht, hs, h, hh => by
    have h1 := hs s (by simp);obtain ⟨k, hk⟩ : ∃ k : Nat, s.hour = k := ⟨s.hour.toNat, by omega⟩;have e1 : (k : Int).toNat = k := Int.toNat_natCast k;rw [List.foldl_cons, List.foldl_cons, swps_get l (by simp [addSwp, setI, ht]) (fun x hx => hs x (by simp [hx])) h hh]
    congr 1
    unfold addSwp mSwp;rw [hk];simp only [setI, getI, e1];rw [List.getD_eq_getElem?_getD, List.getElem?_set];by_cases e : h = k
    · subst e;rw [if_pos rfl, if_pos rfl, if_pos (by rw [ht]; exact hh)];rfl
    · rw [if_neg (fun x => e x.symm), if_neg (by omega), ← List.getD_eq_getElem?_getD]
theorem fin_ref {p : Prt} {l : Pln} (hc : ∀ c ∈ l.calls, 0 ≤ c.hour ∧ c.hour < l.hours) (hs : ∀ s ∈ l.swps, 0 ≤ s.hour ∧ s.hour < l.hours) (h0 : 0 ≤ l.hours) : ∀ n k, k + n = l.hours.toNat →
    finE p.tugs (l.swps.foldl addSwp (tlyCalls p l.hours.toNat l.calls).tugs) (tlyCalls p l.hours.toNat l.calls).twice k n = rFin p l k n := by
  have hh : ((l.hours.toNat : Nat) : Int) = l.hours := by omega
  have r := TR.calls (p := p) l.calls (tr_zero l.hours.toNat) (fun c h => by have := hc c h; omega);have hsw := swps_get l.swps r.l1 (fun s h => by have := hs s h; omega);intro n;induction n with
  | zero => intro k _; rfl
  | succ n ih =>
    intro k hk;have e1 := r.tw k (by omega);have e2 := hsw k (by omega);rw [r.tg k (by omega)] at e2;unfold finE rFin tlyCalls;rw [e1, e2, ← ih (k + 1) (by omega)];rfl
theorem check_ref (p : Prt) (l : Pln) : checkL p l =
    if checkP p ≠ 0 then checkP p
    else if 60 < l.calls.length ∨ 200 < l.swps.length then 2
    else if within l.hours 1 100 = false then 6
    else if callsE p l.hours 0 l.calls ≠ 0 then callsE p l.hours 0 l.calls
    else if swpsE p l.hours l.swps ≠ 0 then swpsE p l.hours l.swps
    else rFin p l 0 l.hours.toNat := by
  unfold checkL;by_cases h1 : checkP p ≠ 0
  · rw [if_pos h1, if_pos h1]
  rw [if_neg h1, if_neg h1];by_cases h2 : 60 < l.calls.length ∨ 200 < l.swps.length
  · rw [if_pos h2, if_pos h2]
  rw [if_neg h2, if_neg h2];by_cases h3 : within l.hours 1 100 = false
  · rw [if_pos h3, if_pos h3]
  rw [if_neg h3, if_neg h3];by_cases h4 : callsE p l.hours 0 l.calls ≠ 0
  · rw [if_pos h4, if_pos h4]
  rw [if_neg h4, if_neg h4];by_cases h5 : swpsE p l.hours l.swps ≠ 0
  · rw [if_pos h5, if_pos h5]
  rw [if_neg h5, if_neg h5];have hc := (callsE_ok (by simpa using h4)).1;have hs := swpsE_ok (by simpa using h5);have h3' : 1 ≤ l.hours := by simp [within] at h3; omega
  exact fin_ref (fun c h => by have := hc c h; omega) (fun s h => by have := hs s h; omega) (by omega) _ _ (by omega)
end Go.Proofs.Ythmldeningpjbaa.Pt
namespace Go.Proofs.Ythmldeningpjbaa
open Go Go.RowKit Sp Pt
structure BxT (t1 t2 : TypeId) (w W : World) (pb lb D : Nat) (Ac : Option Addr) (cc : Nat) (Ab : Option Addr) (cb : Nat) (p : Prt) (Al : Option Addr) (cl : Nat) (As : Option Addr) (cs : Nat) (l : Pln) : Prop where
  bel : Below w.heap.size w W
  hp : W.heap[pb]? = some (.cells (prtV Ac cc Ab cb p) t1 (0, 0))
  hl : W.heap[lb]? = some (.cells (plnV Al cl As cs l) t2 (0, 0))
  PB : PrtB D W Ac cc Ab cb p
  LB : PlnB D W Al cl As cs l
  hD : D ≤ W.heap.size
section
variable {t1 t2 : TypeId} {w W X : World} {pb lb D : Nat} {Ac : Option Addr} {cc : Nat} {Ab : Option Addr} {cb : Nat} {p : Prt} {Al : Option Addr} {cl : Nat} {As : Option Addr} {cs : Nat} {l : Pln}
theorem BxT.below (h : BxT t1 t2 w W pb lb D Ac cc Ab cb p Al cl As cs l) (hb : Below W.heap.size W X) : BxT t1 t2 w X pb lb D Ac cc Ab cb p Al cl As cs l :=
  ⟨h.bel.trans (hb.mono h.bel.size), (hb.block _ (hL_ h.hp)).trans h.hp, (hb.block _ (hL_ h.hl)).trans h.hl, h.PB.below (hb.mono h.hD), h.LB.below (hb.mono h.hD), Nat.le_trans h.hD hb.size⟩
theorem BxT.cells (h : BxT t1 t2 w W pb lb D Ac cc Ab cb p Al cl As cs l) : W.cell? ⟨pb, 0, none⟩ = some (.slice Ac p.chs.length cc) ∧ W.cell? ⟨pb, 1, none⟩ = some (.slice Ab p.bts.length cb) ∧ W.cell? ⟨pb, 2, none⟩ = some (.int .i64 p.tugs) ∧ pb < W.heap.size ∧
    W.cell? ⟨lb, 0, none⟩ = some (.int .i64 l.hours) ∧ W.cell? ⟨lb, 1, none⟩ = some (.slice Al l.calls.length cl) ∧ W.cell? ⟨lb, 2, none⟩ = some (.slice As l.swps.length cs) ∧ lb < W.heap.size :=
  ⟨(cOH h.hp 0).trans rfl, (cOH h.hp 1).trans rfl, (cOH h.hp 2).trans rfl, hL_ h.hp, (cOH h.hl 0).trans rfl, (cOH h.hl 1).trans rfl, (cOH h.hl 2).trans rfl, hL_ h.hl⟩
end
def mA (p : Prt) (l : Pln) (h j : Nat) : Mt := (l.calls.take j).foldl (mCall p h) ⟨false, [], 0⟩
def mP (m : Mt) (path : List Int) (n : Nat) : Mt := (path.take n).foldl mHit m
def mS (p : Prt) (l : Pln) (h j : Nat) : Int := (l.swps.take j).foldl (mSwp h) (mHour p l h).tugs
theorem mA_succ {p : Prt} {l : Pln} {h j : Nat} (hj : j < l.calls.length) : mA p l h (j + 1) = mCall p h (mA p l h j) l.calls[j] := by
  unfold mA; rw [List.take_succ_eq_append_getElem hj, List.foldl_append]; rfl
theorem mP_succ {m : Mt} {path : List Int} {n : Nat} (hn : n < path.length) : mP m path (n + 1) = mHit (mP m path n) (path.getD n 0) := by
  unfold mP; rw [List.take_succ_eq_append_getElem hn, List.foldl_append]; simp [List.getD_eq_getElem?_getD, hn]
theorem mS_succ {p : Prt} {l : Pln} {h j : Nat} (hj : j < l.swps.length) : mS p l h (j + 1) = mSwp h (mS p l h j) l.swps[j] := by
  unfold mS; rw [List.take_succ_eq_append_getElem hj, List.foldl_append]; rfl
theorem mP_tugs (m : Mt) (path : List Int) (n : Nat) : (mP m path n).tugs = m.tugs ∧ (mP m path n).met.length = m.met.length + (path.take n).length := by
  unfold mP;generalize path.take n = l;induction l generalizing m with
  | nil => simp
  | cons x l ih => rw [List.foldl_cons, (ih _).1, (ih _).2]; simp [mHit]; omega
theorem mCall_eq {p : Prt} {h : Nat} {t : Mt} {c : Cal} (e : c.hour = h) : mCall p h t c = mP ⟨t.twice, t.met, t.tugs + c.tugs⟩ (bt p c.berth).path (bt p c.berth).path.length := by
  unfold mCall mP; rw [if_pos e, List.take_length]
theorem mCall_ne {p : Prt} {h : Nat} {t : Mt} {c : Cal} (e : ¬ c.hour = h) : mCall p h t c = t := by unfold mCall; rw [if_neg e]
theorem mA_bd {p : Prt} {l : Pln} (hc : ∀ c ∈ l.calls, 0 ≤ c.tugs ∧ c.tugs ≤ 20 ∧ (bt p c.berth).path.length ≤ 6) (h : Nat) : ∀ j, j ≤ l.calls.length → 0 ≤ (mA p l h j).tugs ∧ (mA p l h j).tugs ≤ 20 * j ∧ (mA p l h j).met.length ≤ 6 * j
  | 0, _ => by simp [mA]
  | j + 1, hj => by
    have ih := mA_bd hc h j (by omega);have hcc := hc _ (List.getElem_mem (show j < l.calls.length by omega));rw [mA_succ (by omega)];by_cases e : (l.calls[j]'(by omega)).hour = h
    · rw [mCall_eq e];have := mP_tugs ⟨(mA p l h j).twice, (mA p l h j).met, (mA p l h j).tugs + (l.calls[j]'(by omega)).tugs⟩ (bt p (l.calls[j]'(by omega)).berth).path (bt p (l.calls[j]'(by omega)).berth).path.length;rw [this.1, this.2, List.take_length];simp only;omega
    · rw [mCall_ne e]; omega
theorem mS_bd {p : Prt} {l : Pln} (hs : ∀ s ∈ l.swps, 0 ≤ s.tugs ∧ s.tugs ≤ 20) {h : Nat} {B : Int} (hB : 0 ≤ (mHour p l h).tugs ∧ (mHour p l h).tugs ≤ B) : ∀ j, j ≤ l.swps.length → 0 ≤ mS p l h j ∧ mS p l h j ≤ B + 20 * j
  | 0, _ => by simpa [mS] using hB
  | j + 1, hj => by
    have ih := mS_bd hs hB j (by omega);have hss := hs _ (List.getElem_mem (show j < l.swps.length by omega));rw [mS_succ (by omega)];unfold mSwp;split <;> omega
theorem rplTail {Q0 : Exit → Act → World → Prop} {w w0 : World} {pb lb H cb cc cl cs D : Nat} {Ac Ab Al As : Option Addr} {p : Prt} {l : Pln} (B0 : BxT 79 85 w w0 pb lb D Ac cc Ab cb p Al cl As cs l) (pv : PVal p) (hH : l.hours = (H : Int)) (hHr : 1 ≤ H ∧ H ≤ 100) (hn : l.calls.length ≤ 60 ∧ l.swps.length ≤ 200) (hca : ∀ c ∈ l.calls, 0 ≤ c.berth ∧ c.berth < p.bts.length ∧ 0 ≤ c.tugs ∧ c.tugs ≤ 20 ∧ (bt p c.berth).path.length ≤ 6) (hsw : ∀ s ∈ l.swps, 0 ≤ s.tugs ∧ s.tugs ≤ 20) {s0 s1 s4 s5 s6 s7 s8 s9 s10 s11 s12 s13 s14 s15 s16 s17 s18 s19 s20 s21 s22 s23 s24 s25 s26 s27 s28 s29 s30 s31 s32 s33 s34 s35 s36 s37 s38 s39 s40 s41 s42 s43 s44 s45 s46 s47 s48 s49 s50 s51 s52 s53 s54 s55 s56 s57 s58 s59 s60 s61 s62 s63 s64 s65 s66 s67 s68 s69 s70 s71 s72 s73 s74 s75 s76 s77 s78 s79 s80 s81 s82 s83 s84 s85 s86 s87 s88 s89 s90 s91 s92 s93 s94 s95 s96 s97 s98 s99 s100 s101 s102 s103 s104 s105 s106 s107 s108 s109 s110 s111 s112 s113 s114 s115 s116 s117 s118 s119 s120 s121 s122 s123 s124 s125 s126 s127 s128 s129 s130 s131 s132 s133 s134 s135 s136 s137 s138 s139 s140 s141 s142 s143 s144 s145 s146 s147 s148 s149 s150 s151 s152 s153 s154 s155 s156 s157 s158 s159 s160 s161 s162 s163 s164 s165 s166 s167 s168 s169 s170 s171 s172 s173 s174 s175 s176 s177 s178 s179 s180 s181 s182 s183 s184 s185 s186 s187 s188 s189 s190 s191 s192 s193 s194 s195 s196 s197 s198 s199 s200 s201 s202 s203 s204 s205 s206 s207 s208 s209 s210 s211 s212 s213 s214 s215 s216 s217 s218 s219 s220 s221 s222 s223 s224 s225 s226 s227 : Value} (hQ0 : ∀ e1 a1 w1, bodyPost Try.prog Try.f53 (fun e w' => e = .returned (.int .i64 (rFin p l 0 H)) ∧ Below w.heap.size w w') e1 a1 w1 → Q0 e1 a1 w1) :
    Code.wp Try.prog (restOf Try.f53 28) Q0 ⟨#[s0, s1, .pointer (some ⟨pb, 0, none⟩), .pointer (some ⟨lb, 0, none⟩), s4, s5, s6, s7, s8, s9, s10, s11, s12, s13, s14, s15, s16, s17, s18, s19, s20, s21, s22, s23, s24, s25, s26, s27, s28, s29, s30, s31, s32, s33, s34, s35, s36, s37, s38, s39, s40, s41, s42, s43, s44, s45, s46, s47, s48, s49, s50, s51, s52, s53, s54, s55, s56, s57, s58, s59, s60, s61, s62, s63, s64, s65, s66, s67, s68, s69, s70, s71, s72, s73, s74, s75, s76, s77, s78, s79, s80, s81, s82, s83, s84, s85, s86, s87, s88, s89, s90, s91, s92, s93, s94, s95, s96, s97, s98, s99, s100, s101, s102, s103, s104, s105, s106, s107, s108, s109, s110, s111, s112, s113, s114, s115, s116, s117, s118, s119, s120, s121, s122, s123, s124, s125, s126, s127, s128, s129, s130, s131, s132, s133, s134, s135, s136, s137, s138, s139, s140, s141, s142, s143, s144, s145, s146, s147, s148, s149, s150, s151, s152, s153, s154, s155, s156, s157, s158, s159, s160, s161, s162, s163, s164, s165, s166, s167, s168, s169, s170, s171, s172, s173, s174, s175, s176, s177, s178, s179, s180, s181, s182, s183, s184, s185, s186, s187, s188, s189, s190, s191, s192, s193, s194, s195, s196, s197, s198, s199, s200, s201, s202, s203, s204, s205, s206, s207, s208, s209, s210, s211, s212, s213, s214, s215, s216, s217, s218, s219, s220, s221, s222, s223, s224, s225, s226, s227], []⟩ w0 := by
  refine wp_mono ?_ hQ0;clear hQ0
  conv => arg 2; whnf
  obtain ⟨iI, hI0, hI1, hI2, hI3⟩ := info_parts infoKI;have H0 := Lib.hid (And.intro B0 (And.intro pv (And.intro hca hsw)));obtain ⟨c0, c1, c2, zp, c3, c4, c5, zl⟩ := B0.cells;rw [hH] at c3;have HH := Lib.hid hH;have hcap := And.intro B0.PB.c2 (And.intro B0.LB.c1 B0.LB.c2);have hbts := pv.nb;clear B0 pv hH hca hsw;obtain ⟨L, hL⟩ : ∃ L, L = l.calls.length := ⟨_, rfl⟩;obtain ⟨M, hM⟩ : ∃ M, M = l.swps.length := ⟨_, rfl⟩;rw [← hL] at c4 hcap hn;rw [← hM] at c5 hcap hn;have HLM := Lib.hid (And.intro hL hM);clear hL hM;go_wp2_with fail
  go_loopg [10] (H) (fun g i wr => ∃ k : Nat, g + k = H ∧ i = .int .i64 k ∧ rFin p l 0 H = rFin p l k (H - k) ∧ Below w0.heap.size w0 wr)
  case atStart => exact ⟨0, rfl, rfl, rfl, Below.refl _ _⟩
  case round =>
    obtain ⟨k, hk, rfl, hR, hB⟩ := hrel;obtain ⟨w1, hw1⟩ : ∃ w1, w1 = wr := ⟨_, rfl⟩;subst hw1;have B1 := H0.out.1.below hB;obtain ⟨d0, d1, d2, zp1, d3, d4, d5, zl1⟩ := B1.cells;rw [HH.out] at d3;rw [← HLM.out.1] at d4;rw [← HLM.out.2] at d5;have HK := Lib.hid (And.intro hR (And.intro hB B1));clear hR hB B1 c0 c1 c2 zp c3 c4 c5 zl;by_cases hlt : k < H
    · obtain ⟨G1, rfl⟩ : ∃ G, G = gk := ⟨_, rfl⟩;have hnot : Hid (∀ j, j ≤ L → 0 ≤ (mA p l k j).tugs ∧ (mA p l k j).tugs ≤ 20 * j ∧ (mA p l k j).met.length ≤ 6 * j) := Lib.hid (fun j hj => mA_bd (fun c hc => ⟨(H0.out.2.2.1 c hc).2.2.1, (H0.out.2.2.1 c hc).2.2.2.1, (H0.out.2.2.1 c hc).2.2.2.2⟩) k j (by rw [← HLM.out.1]; exact hj));go_wp2_with fail
      go_loopg [11, 12, 13, 14] (L) (fun g o t u i wi => ∃ (j : Nat) (Ao : Option Addr) (co : Nat) (q : List Nat) (m : Mt), g + j = L ∧ i = .int .i64 j ∧ m = mA p l k j ∧ o = .slice Ao m.met.length co ∧ t = .bool m.twice ∧ u = .int .i64 m.tugs ∧ OwnA wi 3 Ao m.met.length co (ints m.met) q ∧ (∀ g ∈ q, w1.heap.size ≤ g) ∧ Keep [] w1 wi)
      case atStart => exact ⟨0, none, 0, [], _, rfl, rfl, rfl, rfl, rfl, rfl, by simpa [ints, mA] using OwnA.nil _ _, by simp, Keep.refl _ _⟩
      case round =>
        obtain ⟨j, Ao, co, q, m, hj, rfl, hm, rfl, rfl, rfl, hO, hq, hK⟩ := hrel;have BK := HK.out.2.2.below (hK.below (Nat.le_refl _) (by simp));obtain ⟨e0, e1, e2, zp2, e3, e4, e5, zl2⟩ := BK.cells;rw [HH.out] at e3;rw [← HLM.out.1] at e4;rw [← HLM.out.2] at e5;have hbd := hnot.out j (by omega);rw [← hm] at hbd;obtain ⟨mtw, met, mtg⟩ := m;simp only at hbd hO;obtain ⟨ml, hml⟩ : ∃ ml, ml = met.length := ⟨_, rfl⟩;simp only [← hml] at hbd hO ⊢;clear d0 d1 d2 zp1 d3 d4 d5 zl1;by_cases hlj : j < L
        · have hjl : j < l.calls.length := by rw [← HLM.out.1]; exact hlj
          obtain ⟨b, off, hAl, hbD, hcell⟩ := BK.LB.calls.2 (by omega);obtain ⟨g0, g1, g2, g3, g4, g5⟩ := cacs_get hjl;obtain ⟨x, hx⟩ : ∃ x, x = l.calls[j] := ⟨_, rfl⟩;have hxc := H0.out.2.2.1 x (by rw [hx]; exact List.getElem_mem hjl);rw [← hx] at g0 g1 g5;have x0 := hcell _ _ g0;have x1 : wr.cell? ⟨b, off + j * 6 + 1, none⟩ = _ := hcell _ _ g1;have x5 : wr.cell? ⟨b, off + j * 6 + 5, none⟩ = _ := hcell _ _ g5;have zb := World.block_lt_of_cell? _ _ x0;have n2 : (j : Int) < (L : Int) := by omega
          have hsucc := mA_succ (p := p) (h := k) hjl;rw [← hx, ← hm] at hsucc;subst hAl;by_cases hh : x.hour = (k : Int)
          · have hne : (x.hour != (k : Int)) = false := by simp [hh]
            obtain ⟨bn, hbn⟩ : ∃ bn : Nat, x.berth = (bn : Int) := ⟨x.berth.toNat, by omega⟩;have hbnl : bn < p.bts.length := by omega
            obtain ⟨b2, off2, Ak, ck, hAb, hbD2, y0', y1', y2⟩ := HK.out.2.2.PB.bts bn hbnl;have y1 := hK.cell y1' (by simp);have hbt : bt p x.berth = p.bts[bn] := by unfold bt; rw [hbn, Int.toNat_natCast, List.getD_eq_getElem?_getD, List.getElem?_eq_getElem hbnl]; rfl
            have hp6 := hxc.2.2.2.2;rw [hbt] at hp6;obtain ⟨⟨dp, path⟩, hy⟩ : ∃ y, y = p.bts[bn] := ⟨_, rfl⟩;rw [← hy] at y1 y2 hp6 hbt;simp only at y1 y2 hp6;rw [hbn] at x1;have zb2 := World.block_lt_of_cell? _ _ y1;have hdn : Hid (mCall p k ⟨mtw, met, mtg⟩ x = mP ⟨mtw, met, mtg + x.tugs⟩ path path.length) := Lib.hid (by rw [mCall_eq hh, hbt]);have htg := hxc.2.2.1;have htg2 := hxc.2.2.2.1;have hbI : (0 : Int) ≤ (bn : Int) ∧ (bn : Int) < (p.bts.length : Int) := by omega
            have HS := Lib.hid (And.intro hsucc (And.intro hO (And.intro hq (And.intro hK (And.intro y2 (And.intro hml hm))))));rw [hh] at x0;have hkk : ((k : Int) != (k : Int)) = false := by simp
            subst hAb;clear hsucc hO hq hK BK hcell g0 g1 g2 g3 g4 g5 hx hbn hxc hbt hy y0' y1' y2 hh hne hm hml;obtain ⟨G2, rfl⟩ : ∃ G, G = gk := ⟨_, rfl⟩;go_upto_region 39 with fail
            go_quiet (fail);obtain ⟨w2, hw2⟩ : ∃ w2, w2 = wr.drewN nq := ⟨_, rfl⟩;rw [← hw2];obtain ⟨-, hO, hq, hK, y2, hml, hm⟩ := HS.out;have hO2 : OwnA w2 3 Ao met.length co (ints met) q := by rw [hw2, ← hml]; exact hO.drewN _
            have hK2 : Keep [] w1 w2 := by rw [hw2]; exact hK.drewN _
            have H2 := Lib.hid (And.intro hO2 (And.intro hq (And.intro hK2 (And.intro y2 (And.intro hm hml)))));have hpc := y2.2.1;have hpm := y2.2.2.1;clear hO hq hK y2 hO2 hK2 hw2 e0 e1 e2 zp2 e3 e4 e5 zl2 x0 x1 x5 zb zb2 y1 hm hml;obtain ⟨pl, hpl⟩ : ∃ pl, pl = path.length := ⟨_, rfl⟩;rw [← hpl] at hp6 hpc;simp only [← hpl];have HPL := Lib.hid hpl;clear hpl;go_wp2_with fail
            go_loopg [11, 12, 16] (pl) (fun g o t i wi => ∃ (n : Nat) (Ao : Option Addr) (co : Nat) (q : List Nat) (m' : Mt), g + n = pl ∧ i = .int .i64 n ∧ m' = mP ⟨mtw, met, mtg + x.tugs⟩ path n ∧ o = .slice Ao m'.met.length co ∧ t = .bool m'.twice ∧ OwnA wi 3 Ao m'.met.length co (ints m'.met) q ∧ (∀ g ∈ q, w1.heap.size ≤ g) ∧ Keep [] w1 wi)
            case atStart => exact ⟨0, Ao, co, q, ⟨mtw, met, mtg + x.tugs⟩, rfl, rfl, rfl, by simp only [H2.out.2.2.2.2.2], rfl, H2.out.1, H2.out.2.1, H2.out.2.2.1⟩
            case round =>
              obtain ⟨n, Ao, co, q, m', hn', rfl, hm', rfl, rfl, hO, hq, hK2⟩ := hrel;have htl := mP_tugs ⟨mtw, met, mtg + x.tugs⟩ path n;rw [← hm'] at htl;by_cases hln : n < pl
              · have hnl : n < path.length := by rw [← HPL.out]; exact hln
                obtain ⟨b3, off3, rfl, hb3D, hc3⟩ := H2.out.2.2.2.1.1.2 (by omega);obtain ⟨v, hv⟩ : ∃ v, v = path.getD n 0 := ⟨_, rfl⟩;have p0 : wr.cell? ⟨b3, off3 + n, none⟩ = some (.int .i64 v) := by rw [hv]; exact hK2.cell (hc3 n _ (iG_ hnl)) (by simp)
                have zb3 := World.block_lt_of_cell? _ _ p0;have hs := mP_succ (m := ⟨mtw, met, mtg + x.tugs⟩) hnl;rw [← hm', ← hv] at hs;obtain ⟨tw, me, tg⟩ := m';simp only at htl hO;have hlen : (path.take n).length = n := by rw [List.length_take]; omega
                have hml2 : met.length = ml := H2.out.2.2.2.2.2.symm;obtain ⟨nl, hnl2⟩ : ∃ nl, nl = me.length := ⟨_, rfl⟩;have hbig : nl ≤ 10000 := by rw [hnl2, htl.2, hlen, hml2]; omega
                obtain ⟨z, hz⟩ : ∃ z, z = me.contains v := ⟨_, rfl⟩;have hct : Calls Try.prog 106 #[.slice Ao nl co, .int .i64 v] wr fun e w' => e = .returned (.bool z) ∧ wr = w' := by rw [hnl2, hz]; exact rhas_any Ao co me v wr hO.rd (by omega)
                have n3 : (n : Int) < (pl : Int) := by omega
                have HN := Lib.hid (And.intro hs (And.intro hct (And.intro hnl2 (And.intro hz (And.intro hO (And.intro hq hK2))))));simp only [← hnl2];clear hs hct hnl2 hz hO hq hK2 hm' htl hc3 hv hlen hml2 hnl;cases tw
                · go_wp2_with (first | (go_at_call 106; refine HN.out.2.1.mono ?_; rintro e w' ⟨rfl, rfl⟩) | (at_builtin; refine wpList_append_A rfl (.tmp 193) (.tmp 198) 33 rfl iI _ 8 Try.underlying33 hI0 hI1 hI2 hI3 rfl (A := Ao) (n := nl) (c := co) (xs := ints me) (fp := q) (by simp [Act.eval]) _ (by simp [Act.eval]) (.int .i64 v) ((by rw [HN.out.2.2.1]; exact HN.out.2.2.2.2.1.alloc _)) (cell_new_one _ _ _) rfl (by omega) (by omega) ?_; intro g off' c' w4 e1 e2 e3 e4; have HQ := Lib.hid (And.intro e1 (And.intro e2 e4)); clear e1 e2 e3 e4))
                  go_roundg (gk - 1);case measure => omega
                  case rel =>
                    obtain ⟨s1, s2, s3, s4, s5, s6, s7⟩ := HN.out;obtain ⟨e1, e2, e4⟩ := HQ.out;refine ⟨n + 1, some ⟨g, off', none⟩, c', [g], _, by omega, by go_num, s1.symm, by simp [mHit, s3], by simp [mHit, s4], ?_, ?_, (s7.alloc _).trans e4 (fun y hy => .inr (s6 y hy))⟩
                    · simp only [mHit, List.length_append, List.length_singleton, ← s3];simpa [ints] using e1
                    · intro y hy;have e : y = g := by simpa using hy
                      subst e;rcases e2 with e | e
                      · exact s6 y e
                      · have := s7.size; simp at e; omega
                · go_wp2_with (at_builtin; refine wpList_append_A rfl (.tmp 193) (.tmp 198) 33 rfl iI _ 8 Try.underlying33 hI0 hI1 hI2 hI3 rfl (A := Ao) (n := nl) (c := co) (xs := ints me) (fp := q) (by simp [Act.eval]) _ (by simp [Act.eval]) (.int .i64 v) ((by rw [HN.out.2.2.1]; exact HN.out.2.2.2.2.1.alloc _)) (cell_new_one _ _ _) rfl (by omega) (by omega) ?_; intro g off' c' w4 e1 e2 e3 e4; have HQ := Lib.hid (And.intro e1 (And.intro e2 e4)); clear e1 e2 e3 e4)
                  go_roundg (gk - 1);case measure => omega
                  case rel =>
                    obtain ⟨s1, s2, s3, s4, s5, s6, s7⟩ := HN.out;obtain ⟨e1, e2, e4⟩ := HQ.out;refine ⟨n + 1, some ⟨g, off', none⟩, c', [g], _, by omega, by go_num, s1.symm, by simp [mHit, s3], by simp [mHit, s4], ?_, ?_, (s7.alloc _).trans e4 (fun y hy => .inr (s6 y hy))⟩
                    · simp only [mHit, List.length_append, List.length_singleton, ← s3];simpa [ints] using e1
                    · intro y hy;have e : y = g := by simpa using hy
                      subst e;rcases e2 with e | e
                      · exact s6 y e
                      · have := s7.size; simp at e; omega
              · obtain rfl : n = pl := by omega
                obtain ⟨tw, me, tg⟩ := m';simp only at htl hO;have HN := Lib.hid (And.intro hm' (And.intro hO (And.intro hq (And.intro hK2 htl))));obtain ⟨nl, hnl2⟩ : ∃ nl, nl = me.length := ⟨_, rfl⟩;have HNL := Lib.hid hnl2;simp only [← hnl2];clear hm' hO hq hK2 htl hnl2;go_wp2_with fail
                go_roundg (G2 - 1);case measure => omega
                case rel =>
                  obtain ⟨h1, h2, h3, h4, h5⟩ := HN.out;refine ⟨j + 1, Ao, co, q, ⟨tw, me, tg⟩, by omega, by go_num, by rw [HS.out.1, hdn.out, ← HPL.out]; exact h1, by rw [HNL.out], rfl, by rw [h5.1], h2, h3, h4⟩
          · have hne : (x.hour != (k : Int)) = true := by simp [hh]
            have hsu : mA p l k (j + 1) = ⟨mtw, met, mtg⟩ := by rw [hsucc, mCall_ne hh]
            have HS := Lib.hid (And.intro hsu (And.intro hO (And.intro hq (And.intro hK hml))));clear hsucc hsu hO hq hK BK hcell g0 g1 g2 g3 g4 g5 hx hxc hh hm hml x1 x5;go_wp2_with fail
            go_roundg (gk - 1);case measure => omega
            case rel =>
              obtain ⟨h1, h2, h3, h4, h5⟩ := HS.out;exact ⟨j + 1, Ao, co, q, ⟨mtw, met, mtg⟩, by omega, by go_num, h1.symm, by rw [h5], rfl, rfl, by rw [← h5]; exact h2, h3, h4⟩
        · obtain rfl : j = L := by omega
          have hmh : mHour p l k = ⟨mtw, met, mtg⟩ := by rw [hm, mA, HLM.out.1, List.take_length]; rfl
          have hsb : Hid (∀ i, i ≤ M → 0 ≤ mS p l k i ∧ mS p l k i ≤ 1200 + 20 * i) := Lib.hid (fun i hi => mS_bd (fun s hs => H0.out.2.2.2 s hs) (by rw [hmh]; simp only; omega) i (by rw [← HLM.out.2]; exact hi));have HS := Lib.hid (And.intro hmh hK);obtain ⟨w2, hw2⟩ : ∃ w2, w2 = wr := ⟨_, rfl⟩;subst hw2;have HBK := Lib.hid BK;have hm0 : mtg = mS p l k 0 := by simp [mS, hmh]
          have HM0 := Lib.hid hm0;clear hmh hm hK hO hq hml hm0 BK;go_wp2_with fail
          go_loopg [13, 17] (M) (fun g u i wi => ∃ (i' : Nat), g + i' = M ∧ i = .int .i64 i' ∧ u = .int .i64 (mS p l k i') ∧ w2 = wi)
          case atStart => exact ⟨0, rfl, rfl, by rw [← HM0.out], rfl⟩
          case round =>
            obtain ⟨i', hi, rfl, rfl, rfl⟩ := hrel;have hbd2 := hsb.out i' (by omega);obtain ⟨tg, htg⟩ : ∃ tg, tg = mS p l k i' := ⟨_, rfl⟩;rw [← htg] at hbd2 ⊢;by_cases hli : i' < M
            · have hil : i' < l.swps.length := by rw [← HLM.out.2]; exact hli
              obtain ⟨b, off, hAs, hbD, hcell⟩ := HBK.out.LB.swps.2 (by omega);obtain ⟨g0, g1, g2⟩ := swcs_get hil;obtain ⟨x, hx⟩ : ∃ x, x = l.swps[i'] := ⟨_, rfl⟩;have hxs := H0.out.2.2.2 x (by rw [hx]; exact List.getElem_mem hil);rw [← hx] at g0 g2;have x0 := hcell _ _ g0;have x2 : w2.cell? ⟨b, off + i' * 3 + 2, none⟩ = _ := hcell _ _ g2;have zb := World.block_lt_of_cell? _ _ x0;have n2 : (i' : Int) < (M : Int) := by omega
              have hsucc := mS_succ (p := p) (h := k) hil;rw [← hx, ← htg] at hsucc;subst hAs;by_cases hh : x.hour = (k : Int)
              · have hne : (x.hour == (k : Int)) = true := by simp [hh]
                have hs2 : mS p l k (i' + 1) = tg + x.tugs := by rw [hsucc, mSwp, if_pos hh]
                have HX := Lib.hid hs2;rw [hh] at x0;have hkk : ((k : Int) == (k : Int)) = true := by simp
                clear hsucc hs2 htg hcell g0 g1 g2 hx hh hne;go_wp2_with fail
                go_roundg (gk - 1);case measure => omega
                case rel => exact ⟨i' + 1, by omega, by go_num, by rw [HX.out], rfl⟩
              · have hne : (x.hour == (k : Int)) = false := by simp [hh]
                have hs2 : mS p l k (i' + 1) = tg := by rw [hsucc, mSwp, if_neg hh]
                have HX := Lib.hid hs2;clear hsucc hs2 htg hcell g0 g1 g2 hx hh x2;go_wp2_with fail
                go_roundg (gk - 1);case measure => omega
                case rel => exact ⟨i' + 1, by omega, by go_num, by rw [HX.out], rfl⟩
            · obtain rfl : i' = M := by omega
              have htt : tg = mTugs p l k := by rw [htg, mS, HLM.out.2, List.take_length]; rfl
              have hfin : rFin p l k (H - k) = if (mHour p l k).twice then 10 else if p.tugs < mTugs p l k then 9 else rFin p l (k + 1) (H - (k + 1)) := by
                rw [show H - k = (H - (k + 1)) + 1 from by omega, rFin]
              rw [HS.out.1, ← htt] at hfin;have HF := Lib.hid (HK.out.1.trans hfin);clear htg htt hfin;cases mtw
              · by_cases ht : p.tugs < tg
                · have HT := Lib.hid ht;go_wp2_with fail
                  go_ret;exact ⟨by rw [HF.out]; simp [HT.out], HBK.out.bel⟩
                · have HT := Lib.hid ht;go_wp2_with fail
                  go_roundg (G1 - 1);case measure => omega
                  case rel => exact ⟨k + 1, by omega, by go_num, by rw [HF.out]; simp only [Bool.false_eq_true, if_false]; exact if_neg (by have := HT.out; omega), HK.out.2.1.trans (HS.out.2.below HK.out.2.1.size (by simp))⟩
              · go_wp2_with fail
                go_ret;exact ⟨by rw [HF.out]; simp, HBK.out.bel⟩
    · obtain rfl : k = H := by omega
      go_wp2_with fail
      go_ret;exact ⟨by rw [HK.out.1, Nat.sub_self]; rfl, HK.out.2.2.bel⟩
end Go.Proofs.Ythmldeningpjbaa
