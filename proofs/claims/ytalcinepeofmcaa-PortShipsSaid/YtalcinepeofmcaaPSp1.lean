import Derived.Test.YtalcinepeofmcaaPSp0
import Derived.WideKeyPair
import Derived.MapKept
import Derived.Orders
import Derived.KernelRfl
import Derived.WalkKit
set_option linter.unusedVariables false
set_option linter.unusedSimpArgs false
set_option maxRecDepth 100000
set_option maxHeartbeats 40000000
namespace Go.Proofs.Ytalcinepeofmcaa
open Go Go.RowKit Sp Pt
theorem all_take_succ {T : Type} {f : T → Bool} {l : List T} {k : Nat} (hk : k < l.length) (h : (l.take k).all f = true) (hf : f l[k] = true) : (l.take (k + 1)).all f = true := by
  rw [List.take_succ_eq_append_getElem hk, List.all_append, h]; simp [hf]
theorem all_not {T : Type} {f : T → Bool} {l : List T} {k : Nat} (hk : k < l.length) (hf : f l[k] = false) : l.all f = false := by
  cases h : l.all f with
  | false => rfl
  | true => rw [List.all_eq_true.1 h _ (List.getElem_mem hk)] at hf; cases hf
theorem checkP_1 {p : Prt} (h1 : (within p.chs.length 1 6 && within p.bts.length 1 4) = false) : checkP p = 2 := by unfold checkP; rw [if_pos h1]
theorem checkP_2 {p : Prt} (h1 : within p.chs.length 1 6 = true) (h2 : within p.bts.length 1 4 = true) (h3 : within p.tugs 0 20 = false) : checkP p = 100 := by unfold checkP; rw [h1, h2, h3]; rfl
theorem checkP_3 {p : Prt} (h1 : within p.chs.length 1 6 = true) (h2 : within p.bts.length 1 4 = true) (h3 : within p.tugs 0 20 = true) (h4 : p.chs.all chOk = false) : checkP p = 100 := by unfold checkP; rw [h1, h2, h3, h4]; rfl
theorem checkP_4 {p : Prt} (h1 : within p.chs.length 1 6 = true) (h2 : within p.bts.length 1 4 = true) (h3 : within p.tugs 0 20 = true) (h4 : p.chs.all chOk = true) (h5 : p.bts.all (btOk p.chs.length) = false) : checkP p = 100 := by unfold checkP; rw [h1, h2, h3, h4, h5]; rfl
theorem checkP_5 {p : Prt} (h1 : within p.chs.length 1 6 = true) (h2 : within p.bts.length 1 4 = true) (h3 : within p.tugs 0 20 = true) (h4 : p.chs.all chOk = true) (h5 : p.bts.all (btOk p.chs.length) = true) : checkP p = 0 := by unfold checkP; rw [h1, h2, h3, h4, h5]; rfl
theorem pathOk_no {n : Int} {l : List Int} : ∀ {k m : Nat}, k < m → (within (l.getD k 0) 0 (n - 1) && !(l.take k).contains (l.getD k 0)) = false → pathOk n l m = false
  | k, 0, h, _ => absurd h (by omega)
  | k, m + 1, h, hf => by
    by_cases e : k = m
    · subst e; rw [pathOk, hf]; simp
    · rw [pathOk, pathOk_no (by omega) hf]; simp
theorem ptCheck_any (D : Nat) (Ac : Option Addr) (cc : Nat) (Ab : Option Addr) (cb : Nat) (p : Prt) (w : World) (hp : PrtB D w Ac cc Ab cb p) (hD : D ≤ w.heap.size) :
    Calls Try.prog 60 #[.agg (prtV Ac cc Ab cb p)] w fun e w' => e = .returned (.int .i64 (checkP p)) ∧ Below w.heap.size w w' := by
  have b0 : Below w.heap.size w (w.alloc (.cells (prtV Ac cc Ab cb p) 44)) := (Below.refl _ _).alloc (Nat.le_refl _) _;cases h1 : within p.chs.length 1 6
  · go_enter Try.func60, Try.ntmps60
    go_wp2_with (go_at_call 39; refine (pWa _ _ _ _).mono ?_; rintro e w' ⟨rfl, rfl⟩)
    go_ret;exact ⟨by rw [checkP_1 (by rw [h1]; rfl)]; rfl, b0⟩
  cases h2 : within p.bts.length 1 4
  · go_enter Try.func60, Try.ntmps60
    go_wp2_with (go_at_call 39; refine (pWa _ _ _ _).mono ?_; rintro e w' ⟨rfl, rfl⟩)
    go_ret;exact ⟨by rw [checkP_1 (by rw [h1, h2]; rfl)]; rfl, b0⟩
  cases h3 : within p.tugs 0 20
  · go_enter Try.func60, Try.ntmps60
    go_wp2_with (go_at_call 39; refine (pWa _ _ _ _).mono ?_; rintro e w' ⟨rfl, rfl⟩)
    go_ret;exact ⟨by rw [checkP_2 h1 h2 h3]; rfl, b0⟩
  have hl1 : 1 ≤ p.chs.length ∧ p.chs.length ≤ 6 := by simp [within] at h1; omega
  have hl2 : 1 ≤ p.bts.length ∧ p.bts.length ≤ 4 := by simp [within] at h2; omega
  obtain ⟨bc, oc, rfl, hbc, hcc⟩ := hp.chs.2 (by omega);have HP := Lib.hid hp;have HB := Lib.hid hcc;clear hp hcc
  go_enter Try.func60, Try.ntmps60
  go_upto_region 5 with (go_at_call 39; refine (pWa _ _ _ _).mono ?_; rintro e w' ⟨rfl, rfl⟩)
  obtain ⟨W, hW⟩ : ∃ W, W = w.alloc (.cells (prtV (some ⟨bc, oc, none⟩) cc Ab cb p) 44) := ⟨_, rfl⟩;obtain ⟨bx, hbx⟩ : ∃ bx, bx = w.heap.size := ⟨_, rfl⟩;have fp : W.heap[bx]? = some (.cells (prtV (some ⟨bc, oc, none⟩) cc Ab cb p) 44 (0, 0)) := by rw [hW, hbx]; exact heap_alloc_new _ _
  rw [← hW, ← hbx];have b1 : Below w.heap.size w W := by rw [hW]; exact b0
  have f0 : W.cell? ⟨bx, 0, none⟩ = some (.slice (some ⟨bc, oc, none⟩) p.chs.length cc) := (cOH fp 0).trans rfl;have f1 : W.cell? ⟨bx, 1, none⟩ = some (.slice Ab p.bts.length cb) := (cOH fp 1).trans rfl;have hxW := hL_ fp;have HW := Lib.hid (And.intro b1 (And.intro h1 (And.intro h2 h3)));clear hW hbx fp b0 b1 h1 h2 h3;have hbcW : bc < W.heap.size := by have := HW.out.1.size; omega
  go_wp2_with fail
  go_loopg [28] (p.chs.length) (fun g i wr => ∃ k : Nat, g + k = p.chs.length ∧ i = .int .i64 k ∧ (p.chs.take k).all chOk = true ∧ Keep [] W wr)
  case atStart => exact ⟨0, rfl, rfl, by simp, Keep.refl _ _⟩
  case round =>
    obtain ⟨k, hk, rfl, hok, hK⟩ := hrel;by_cases hlt : k < p.chs.length
    · obtain ⟨s0, s1, s2⟩ := chcs_get hlt;obtain ⟨x, hx⟩ : ∃ x, x = p.chs[k] := ⟨_, rfl⟩;rw [← hx] at s0 s1 s2;have bB : Below w.heap.size w wr := HW.out.1.trans (hK.below HW.out.1.size (by simp));have cw : ∀ {o : Nat} {u : Value}, w.cell? ⟨bc, o, none⟩ = some u → wr.cell? ⟨bc, o, none⟩ = some u := fun h => (bB.cell (p := ⟨bc, _, none⟩) (show bc < w.heap.size by omega)).trans h;have d0 := cw (HB.out _ _ s0);have d1 : wr.cell? ⟨bc, oc + k * 3 + 1, none⟩ = some (.int .i64 x.frost) := cw (HB.out _ _ s1);have d2 : wr.cell? ⟨bc, oc + k * 3 + 2, none⟩ = some (.int .i64 x.clear) := cw (HB.out _ _ s2);have hbl : bc < wr.heap.size := by have := hK.size; omega
      have HI := Lib.hid (And.intro hok (And.intro hK (And.intro bB hx)));clear s0 s1 s2 hok hK hx bB cw f0 f1;go_wp2_with (go_at_call 39; refine (pWa _ _ _ _).mono ?_; rintro e w' ⟨rfl, rfl⟩)
      any_goals (go_ret; refine ⟨?_, HI.out.2.2.1.alloc HI.out.2.2.1.size _⟩; rw [checkP_3 HW.out.2.1 HW.out.2.2.1 HW.out.2.2.2 (all_not hlt (by rw [← HI.out.2.2.2]; simp_all [chOk]))]; rfl)
      go_roundg (gk - 1);case measure => omega
      case rel => exact ⟨k + 1, by omega, by go_num, all_take_succ hlt HI.out.1 (by rw [← HI.out.2.2.2]; simp_all [chOk]), HI.out.2.1.alloc _⟩
    · obtain rfl : k = p.chs.length := by omega
      have hal : p.chs.all chOk = true := by rwa [List.take_length] at hok
      have HC := Lib.hid (And.intro hal hK);have f1' := hK.cell f1 (by simp);have f0' := hK.cell f0 (by simp);have hxr : bx < wr.heap.size := by have := hK.size; omega
      clear hal hok hK f0 f1 hk;obtain ⟨w1, hw1⟩ : ∃ w1, w1 = wr := ⟨_, rfl⟩;subst hw1;go_wp2_with fail
      go_loopg [52] (p.bts.length) (fun g i wq => ∃ k : Nat, g + k = p.bts.length ∧ i = .int .i64 k ∧ (p.bts.take k).all (btOk p.chs.length) = true ∧ Keep [] w1 wq)
      case atStart => exact ⟨0, rfl, rfl, by simp, Keep.refl _ _⟩
      case round =>
        obtain ⟨w2, hw2⟩ : ∃ w2, w2 = wr := ⟨_, rfl⟩;subst hw2;obtain ⟨k, hk, rfl, hok, hK⟩ := hrel;by_cases hlt : k < p.bts.length
        · obtain ⟨b, off, Ak, ck, hAb, hbD, d1, d2, d3⟩ := HP.out.bts k hlt;obtain ⟨x, hx⟩ : ∃ x, x = p.bts[k] := ⟨_, rfl⟩;rw [← hx] at d1 d2 d3;obtain ⟨dp, pth⟩ := x;simp only at d1 d2 d3;have bB : Below w.heap.size w w2 := (HW.out.1.trans (HC.out.2.below HW.out.1.size (by simp))).trans (hK.below (by have := HW.out.1.size; have := HC.out.2.size; omega) (by simp));have d1' := (bB.cell (p := ⟨b, off + k * 2, none⟩) (show b < w.heap.size by omega)).trans d1;have d2' := (bB.cell (p := ⟨b, off + k * 2 + 1, none⟩) (show b < w.heap.size by omega)).trans d2;have d3' : PathB w.heap.size w2 Ak ck pth := (d3.mono hD).below bB;have hbl : b < w2.heap.size := by have := bB.size; omega
          have g1 := hK.cell f1' (by simp);have g0 := hK.cell f0' (by simp);have hxq : bx < w2.heap.size := by have := hK.size; omega
          have hkb : btOk p.chs.length p.bts[k] = (within dp 10 3000 && (!decide (pth.length = 0) && pathOk p.chs.length pth pth.length)) := by rw [← hx]; rfl
          have hbad : btOk p.chs.length p.bts[k] = false → checkP p = 100 := fun h => checkP_4 HW.out.2.1 HW.out.2.2.1 HW.out.2.2.2 HC.out.1 (all_not hlt h);have hpl := d3'.1.1;have hpc := d3'.2.1;have hpm := d3'.2.2.1;have HI := Lib.hid (And.intro hok (And.intro hK (And.intro bB (And.intro hkb (And.intro hbad d3')))));subst hAb;clear hok hK hx bB d1 d2 d3 d3' hkb hbad hpl f0' f1';cases hz : within dp 10 3000
          · go_wp2_with (go_at_call 39; refine (pWa _ _ _ _).mono ?_; rintro e w' ⟨rfl, rfl⟩)
            go_ret;exact ⟨by rw [HI.out.2.2.2.2.1 (by rw [HI.out.2.2.2.1, hz]; rfl)]; rfl, HI.out.2.2.1.alloc HI.out.2.2.1.size _⟩
          by_cases hn : pth.length = 0
          · rw [hn] at d2' hpc;go_wp2_with (go_at_call 39; refine (pWa _ _ _ _).mono ?_; rintro e w' ⟨rfl, rfl⟩)
            go_ret;exact ⟨by rw [HI.out.2.2.2.2.1 (by rw [HI.out.2.2.2.1, hz, hn]; rfl)]; rfl, HI.out.2.2.1.alloc HI.out.2.2.1.size _⟩
          have hn0 : ((pth.length : Int) == 0) = false := beq_eq_false_iff_ne.2 (by omega);obtain ⟨gb, rfl⟩ : ∃ gb, gb = gk := ⟨_, rfl⟩;go_upto_region 16 with (go_at_call 39; refine (pWa _ _ _ _).mono ?_; rintro e w' ⟨rfl, rfl⟩)
          obtain ⟨W3, hW3⟩ : ∃ W, W = w2.alloc (.cells #[.int .i64 dp, .slice Ak pth.length ck] 63) := ⟨_, rfl⟩;obtain ⟨bq, hbq⟩ : ∃ bq, bq = w2.heap.size := ⟨_, rfl⟩;have b3 : Below w2.heap.size w2 W3 := by rw [hW3]; exact (Below.refl _ _).alloc (Nat.le_refl _) _
          have q1 : W3.cell? ⟨bq, 1, none⟩ = some (.slice Ak pth.length ck) := by rw [hW3, hbq]; simp [World.cell?_alloc_new]
          have hqw : bq < W3.heap.size := by rw [hW3, hbq]; simp
          have g0' := (b3.cell (p := ⟨bx, 0, none⟩) (show bx < w2.heap.size from hxq)).trans g0;have g1' := (b3.cell (p := ⟨bx, 1, none⟩) (show bx < w2.heap.size from hxq)).trans g1;have p3 : PathB w.heap.size W3 Ak ck pth := HI.out.2.2.2.2.2.below (b3.mono HI.out.2.2.1.size);obtain ⟨bp, op, hAk, hbp, hpc3⟩ := p3.1.2 (by omega);have bwp : bp < W3.heap.size := by have := b3.size; have := HI.out.2.2.1.size; omega
          have hp0 := p3.2.1;rw [← hW3, ← hbq];have H3 := Lib.hid (And.intro b3 (And.intro p3 (And.intro hz (And.intro hpc3 (show ¬ pth.length = 0 from hn)))));have hxq3 : bx < W3.heap.size := by have := b3.size; omega
          subst hAk;clear hW3 hbq b3 g0 g1 d1' d2' p3 hz hpc3 hpc;have hnn : 0 < pth.length := by omega
          clear hn hn0;go_wp2_with fail
          go_loopg [69] (pth.length) (fun g i wi => ∃ j : Nat, g + j = pth.length ∧ i = .int .i64 j ∧ pathOk p.chs.length pth j = true ∧ ∃ m, wi = W3.drewN m)
          case atStart => exact ⟨0, rfl, rfl, rfl, 0, rfl⟩
          case round =>
            obtain ⟨j, hj, rfl, hjk, m, rfl⟩ := hrel;by_cases hlj : j < pth.length
            · obtain ⟨n, hn⟩ : ∃ n, n = pth.getD j 0 := ⟨_, rfl⟩;have c0 : W3.cell? ⟨bp, op + j, none⟩ = some (.int .i64 n) := by rw [hn]; exact H3.out.2.2.2.1 j _ (iG_ hlj)
              have hS : pathOk p.chs.length pth (j + 1) = (pathOk p.chs.length pth j && (within n 0 ((p.chs.length : Int) - 1) && !(pth.take j).contains n)) := by rw [hn]; rfl
              have hN : (within n 0 ((p.chs.length : Int) - 1) && !(pth.take j).contains n) = false → pathOk p.chs.length pth pth.length = false := fun h => pathOk_no hlj (by rw [← hn]; exact h);have htk : (pth.take j).length = j := by rw [List.length_take]; omega
              have hct := contI_any (some ⟨bp, op, none⟩) ck (pth.take j) n (W3.drewN m) (by
                rw [htk];refine ⟨by simp [ints]; omega, fun _ => ⟨bp, op, rfl, bwp, fun i u hu => H3.out.2.2.2.1 i u ?_⟩⟩;have hi : i < (pth.take j).length := by have := (List.getElem?_eq_some_iff.1 hu).1; simpa [ints] using this
                rw [iG_ hi] at hu;rw [iG_ (by omega), ← hu];simp [List.getD_eq_getElem?_getD, List.getElem?_take, show i < j from by omega]) (by omega)
              rw [htk] at hct;obtain ⟨z, hzz⟩ : ∃ z, z = (pth.take j).contains n := ⟨_, rfl⟩;rw [← hzz] at hct hS hN;have HJ := Lib.hid (And.intro hct (And.intro hS (And.intro hN (And.intro hjk hn))));clear hct hS hN hjk hn hzz;cases hw : within n 0 ((p.chs.length : Int) - 1)
              · go_wp2_with (go_at_call 39; refine (pWa _ _ _ _).mono ?_; rintro e w' ⟨rfl, rfl⟩)
                go_ret;refine ⟨?_, (HI.out.2.2.1.trans (H3.out.1.mono HI.out.2.2.1.size)).trans ⟨rfl, rfl, rfl, Nat.le_refl _, fun _ _ => rfl⟩⟩;rw [HI.out.2.2.2.2.1 (by rw [HI.out.2.2.2.1, H3.out.2.2.1, HJ.out.2.2.1 (by rw [hw]; rfl)]; simp)]; rfl
              · have hjc : (j : Int) ≤ (ck : Int) := by omega
                cases z
                · go_wp2_with (first | (go_at_call 39; refine (pWa _ _ _ _).mono ?_; rintro e w' ⟨rfl, rfl⟩) | (go_at_call 78; refine HJ.out.1.mono ?_; rintro e w' ⟨rfl, rfl⟩))
                  go_roundg (gk - 1);case measure => omega
                  case rel => exact ⟨j + 1, by omega, by go_num, by rw [HJ.out.2.1, HJ.out.2.2.2.1, hw]; rfl, m, rfl⟩
                · go_wp2_with (first | (go_at_call 39; refine (pWa _ _ _ _).mono ?_; rintro e w' ⟨rfl, rfl⟩) | (go_at_call 78; refine HJ.out.1.mono ?_; rintro e w' ⟨rfl, rfl⟩))
                  go_ret;refine ⟨?_, (HI.out.2.2.1.trans (H3.out.1.mono HI.out.2.2.1.size)).trans ⟨rfl, rfl, rfl, Nat.le_refl _, fun _ _ => rfl⟩⟩;rw [HI.out.2.2.2.2.1 (by rw [HI.out.2.2.2.1, H3.out.2.2.1, HJ.out.2.2.1 (by rw [hw]; rfl)]; simp)]; rfl
            · obtain rfl : j = pth.length := by omega
              have HL := Lib.hid hjk;clear hjk;go_wp2_with fail
              go_roundg (gb - 1);case measure => omega
              case rel =>
                refine ⟨k + 1, by omega, by go_num, all_take_succ hlt HI.out.1 (by rw [HI.out.2.2.2.1, H3.out.2.2.1, HL.out]; simp; have := H3.out.2.2.2.2; intro h; rw [h] at this; simp at this), ?_⟩;exact (HI.out.2.1.trans (Keep.of_below (S := []) H3.out.1) (by simp)).drewN m
        · obtain rfl : k = p.bts.length := by omega
          have hal : p.bts.all (btOk p.chs.length) = true := by rwa [List.take_length] at hok
          have bB : Below w.heap.size w w2 := (HW.out.1.trans (HC.out.2.below HW.out.1.size (by simp))).trans (hK.below (by have := HW.out.1.size; have := HC.out.2.size; omega) (by simp));have HE := Lib.hid (And.intro hal bB);clear hal hok hK bB;go_wp2_with fail
          go_ret;exact ⟨by rw [checkP_5 HW.out.2.1 HW.out.2.2.1 HW.out.2.2.2 HC.out.1 HE.out.1]; rfl, HE.out.2⟩
abbrev caV (c : Cal) : Array Value := #[.int .i64 c.hour, .int .i64 c.berth, .bool c.out, .int .i64 c.draught, .int .i64 c.most, .int .i64 c.tugs]
theorem callE_b {p : Prt} {h : Int} {c : Cal} {f : Int} (h1 : (within c.berth 0 ((p.bts.length : Int) - 1) && (within c.most 0 1000000 && within c.tugs 0 20)) = false) : callE p h c f = 1 := by unfold callE; rw [if_pos h1]
theorem callE_c {p : Prt} {h : Int} {c : Cal} {f : Int} (h1 : (within c.berth 0 ((p.bts.length : Int) - 1) && (within c.most 0 1000000 && within c.tugs 0 20)) = true) : callE p h c f = if within c.draught 10 (bt p c.berth).depth = false then 100 else if within c.hour 0 (h - 1) = false then 12 else if c.hour < f then 11 else 0 := by unfold callE; rw [if_neg (by rw [h1]; decide)]
theorem ptCall_any (pb : Nat) (Ac : Option Addr) (cc : Nat) (Ab : Option Addr) (cb : Nat) (p : Prt) (Al : Option Addr) (cl : Nat) (As : Option Addr) (cs : Nat) (l : Pln) (c : Cal) (f : Int) (D : Nat) (w : World)
    (hp : w.heap[pb]? = some (.cells (prtV Ac cc Ab cb p) 44 (0, 0))) (hb : BtsB D w Ab p.bts) (hD : D ≤ w.heap.size) (hl : p.bts.length ≤ 1000) (hh : 1 ≤ l.hours ∧ l.hours ≤ 1000) :
    Calls Try.prog 61 #[.pointer (some ⟨pb, 0, none⟩), .agg (plnV Al cl As cs l), .agg (caV c), .int .i64 f] w fun e w' => e = .returned (.int .i64 (callE p l.hours c f)) ∧ Below w.heap.size w w' := by
  obtain ⟨hh1, hh2⟩ := hh;obtain ⟨h0, be, ou, dr, mo, tu⟩ := c;have p1 : w.cell? ⟨pb, 1, none⟩ = some (.slice Ab p.bts.length cb) := (cOH hp 1).trans rfl;have hpw := hL_ hp;obtain ⟨a1, ha1⟩ : ∃ a, a = within be 0 ((p.bts.length : Int) - 1) := ⟨_, rfl⟩;obtain ⟨a2, ha2⟩ : ∃ a, a = within mo 0 1000000 := ⟨_, rfl⟩;obtain ⟨a3, ha3⟩ : ∃ a, a = within tu 0 20 := ⟨_, rfl⟩;have k1 : ∀ wx, Calls Try.prog 39 #[.int .i64 be, .int .i64 0, .int .i64 ((p.bts.length : Int) - 1)] wx fun e w' => e = .returned (.bool a1) ∧ wx = w' := fun wx => by rw [ha1]; exact pWa _ _ _ wx
  have k2 : ∀ wx, Calls Try.prog 39 #[.int .i64 mo, .int .i64 0, .int .i64 1000000] wx fun e w' => e = .returned (.bool a2) ∧ wx = w' := fun wx => by rw [ha2]; exact pWa _ _ _ wx
  have k3 : ∀ wx, Calls Try.prog 39 #[.int .i64 tu, .int .i64 0, .int .i64 20] wx fun e w' => e = .returned (.bool a3) ∧ wx = w' := fun wx => by rw [ha3]; exact pWa _ _ _ wx
  have bb : ∀ o o', Below w.heap.size w ((w.alloc o).alloc o') := fun o o' => ((Below.refl _ _).alloc (Nat.le_refl _) _).alloc (by simp) _;have HA := Lib.hid (And.intro ha1 (And.intro ha2 (And.intro ha3 (And.intro k1 (And.intro k2 (And.intro k3 bb))))));have HP := Lib.hid (And.intro hp hb);clear ha1 ha2 ha3 k1 k2 k3 hp hb bb;cases a1
  · cases a2 <;> cases a3
    all_goals
      go_enter Try.func61, Try.ntmps61
      go_upto_region 1 with fail
      go_quiet ((go_at_call 39; first | with_reducible exact Calls.quiet_of_same ((HA.out.2.2.2.1 _).mono fun e W' ⟨h1, h2⟩ => ⟨h1, h2.symm⟩) | with_reducible exact Calls.quiet_of_same ((HA.out.2.2.2.2.1 _).mono fun e W' ⟨h1, h2⟩ => ⟨h1, h2.symm⟩) | with_reducible exact Calls.quiet_of_same ((HA.out.2.2.2.2.2.1 _).mono fun e W' ⟨h1, h2⟩ => ⟨h1, h2.symm⟩)));go_wp2_with fail
      go_ret;exact ⟨by rw [callE_b (by rw [← HA.out.1, ← HA.out.2.1, ← HA.out.2.2.1]; rfl)]; rfl, below_drewN (HA.out.2.2.2.2.2.2 _ _) _⟩
  · cases a2
    · cases a3;all_goals
        go_enter Try.func61, Try.ntmps61
        go_upto_region 1 with fail
        go_quiet ((go_at_call 39; first | with_reducible exact Calls.quiet_of_same ((HA.out.2.2.2.1 _).mono fun e W' ⟨h1, h2⟩ => ⟨h1, h2.symm⟩) | with_reducible exact Calls.quiet_of_same ((HA.out.2.2.2.2.1 _).mono fun e W' ⟨h1, h2⟩ => ⟨h1, h2.symm⟩) | with_reducible exact Calls.quiet_of_same ((HA.out.2.2.2.2.2.1 _).mono fun e W' ⟨h1, h2⟩ => ⟨h1, h2.symm⟩)));go_wp2_with fail
        go_ret;exact ⟨by rw [callE_b (by rw [← HA.out.1, ← HA.out.2.1, ← HA.out.2.2.1]; rfl)]; rfl, below_drewN (HA.out.2.2.2.2.2.2 _ _) _⟩
    · cases a3
      · skip
        go_enter Try.func61, Try.ntmps61
        go_upto_region 1 with fail
        go_quiet ((go_at_call 39; first | with_reducible exact Calls.quiet_of_same ((HA.out.2.2.2.1 _).mono fun e W' ⟨h1, h2⟩ => ⟨h1, h2.symm⟩) | with_reducible exact Calls.quiet_of_same ((HA.out.2.2.2.2.1 _).mono fun e W' ⟨h1, h2⟩ => ⟨h1, h2.symm⟩) | with_reducible exact Calls.quiet_of_same ((HA.out.2.2.2.2.2.1 _).mono fun e W' ⟨h1, h2⟩ => ⟨h1, h2.symm⟩)));go_wp2_with fail
        go_ret;exact ⟨by rw [callE_b (by rw [← HA.out.1, ← HA.out.2.1, ← HA.out.2.2.1]; rfl)]; rfl, below_drewN (HA.out.2.2.2.2.2.2 _ _) _⟩
      · have hk := HA.out.1.symm;have hk' : 0 ≤ be ∧ be < p.bts.length := by simp [within] at hk; omega
        obtain ⟨k, hkb⟩ : ∃ k : Nat, be = k := ⟨be.toNat, by omega⟩;have hk2 : k < p.bts.length := by omega
        obtain ⟨b, off, Ak, ck, rfl, hbD, d1, d2, d3⟩ := HP.out.2 k hk2;have hbt : bt p be = p.bts[k] := by simp [bt, hkb, hk2]
        obtain ⟨dp, hdp⟩ : ∃ d, d = p.bts[k].depth := ⟨_, rfl⟩;rw [← hdp] at d1;have hbw : b < w.heap.size := by omega
        obtain ⟨a4, ha4⟩ : ∃ a, a = within dr 10 dp := ⟨_, rfl⟩;have k4 : ∀ wx, Calls Try.prog 39 #[.int .i64 dr, .int .i64 10, .int .i64 dp] wx fun e w' => e = .returned (.bool a4) ∧ wx = w' := fun wx => by rw [ha4]; exact pWa _ _ _ wx
        have H4 := Lib.hid (And.intro k4 (And.intro ha4 (And.intro hdp hbt)));have hk3 : ((k : Nat) : Int) < (p.bts.length : Int) := by omega
        clear k4 ha4 hdp hbt d2 d3 hk hk';subst hkb
        go_enter Try.func61, Try.ntmps61
        go_upto_region 1 with fail
        go_quiet ((go_at_call 39; first | with_reducible exact Calls.quiet_of_same ((HA.out.2.2.2.1 _).mono fun e W' ⟨h1, h2⟩ => ⟨h1, h2.symm⟩) | with_reducible exact Calls.quiet_of_same ((HA.out.2.2.2.2.1 _).mono fun e W' ⟨h1, h2⟩ => ⟨h1, h2.symm⟩) | with_reducible exact Calls.quiet_of_same ((HA.out.2.2.2.2.2.1 _).mono fun e W' ⟨h1, h2⟩ => ⟨h1, h2.symm⟩)));go_upto_region 3 with fail
        have e0 := d1; have e1 := p1;cases a4
        · go_quiet ((go_at_call 39; refine (H4.out.1 _).mono ?_; rintro e W1 ⟨rfl, rfl⟩; exact ⟨rfl, _, rfl⟩));go_wp2_with fail
          go_ret;exact ⟨by rw [callE_c (by rw [← HA.out.1, ← HA.out.2.1, ← HA.out.2.2.1]; rfl), H4.out.2.2.2, ← H4.out.2.2.1, ← H4.out.2.1]; rfl, by first | exact below_drewN (HA.out.2.2.2.2.2.2 _ _) _ | exact below_drewN (below_drewN (HA.out.2.2.2.2.2.2 _ _) _) _⟩
        · go_quiet ((go_at_call 39; refine (H4.out.1 _).mono ?_; rintro e W1 ⟨rfl, rfl⟩; exact ⟨rfl, _, rfl⟩));go_wp2_with (go_at_call 39; refine (pWa _ _ _ _).mono ?_; rintro e w' ⟨rfl, rfl⟩)
          all_goals
            go_ret;refine ⟨?_, by first | exact below_drewN (HA.out.2.2.2.2.2.2 _ _) _ | exact below_drewN (below_drewN (HA.out.2.2.2.2.2.2 _ _) _) _⟩;rw [callE_c (by rw [← HA.out.1, ← HA.out.2.1, ← HA.out.2.2.1]; rfl), H4.out.2.2.2, ← H4.out.2.2.1, ← H4.out.2.1];first | (simp [*]; done) | (simp_all; done)
end Go.Proofs.Ytalcinepeofmcaa
namespace Go.Proofs.Ytalcinepeofmcaa
open Go Go.RowKit Go.WideMaps
def MapI (P : Program) (k : TypeId) (w : World) (mb n : Nat) (f : Value → Int) : Prop :=
  ∃ es clock, w.heap[mb]? = some (.map es clock) ∧ es.size ≤ n ∧ MapKept.Stamped es clock ∧ (∀ x ∈ es.toList, (∃ l, keyOf P k x.key = some l) ∧ x.val = .int .i64 (f x.key)) ∧
    ∀ key, (∀ x ∈ es.toList, x.key ≠ key) → f key = 0
def MapIAt (P : Program) (k : TypeId) (w : World) (mb n : Nat) (f : Value → Int) (key : Value) (st : Nat) : Prop :=
  ∃ es clock, w.heap[mb]? = some (.map es clock) ∧ es.size ≤ n ∧ MapKept.Stamped es clock ∧ (∀ x ∈ es.toList, (∃ l, keyOf P k x.key = some l) ∧ x.val = .int .i64 (f x.key)) ∧
    (∀ key, (∀ x ∈ es.toList, x.key ≠ key) → f key = 0) ∧ ∃ (j : Nat) (e0 : MapEntry), es[j]? = some e0 ∧ e0.key = key ∧ e0.born = st
section
variable {P : Program} {k t e : TypeId} {w w' : World} {mb n : Nat} {f : Value → Int}
theorem MapI.lt (h : MapI P k w mb n f) : mb < w.heap.size := by obtain ⟨es, clock, hb, _⟩ := h; exact hL_ hb
theorem MapI.made (w : World) : MapI P k (w.alloc (.map #[] 0)) w.heap.size 0 (fun _ => 0) :=
  ⟨#[], 0, heap_alloc_new w _, Nat.le_refl _, MapKept.stamped_empty 0, by simp, fun _ _ => rfl⟩
theorem MapI.of_heap (h : MapI P k w mb n f) (hb : w'.heap[mb]? = w.heap[mb]?) : MapI P k w' mb n f := by
  obtain ⟨es, clock, h1, h2⟩ := h;exact ⟨es, clock, hb.trans h1, h2⟩
theorem MapI.mono (h : MapI P k w mb n f) {n' : Nat} (hn : n ≤ n') : MapI P k w mb n' f := by
  obtain ⟨es, clock, h1, h2, h3⟩ := h;exact ⟨es, clock, h1, by omega, h3⟩
theorem MapI.congr (h : MapI P k w mb n f) {g : Value → Int} (hg : ∀ v, f v = g v) : MapI P k w mb n g := by
  obtain rfl : f = g := funext hg;exact h
theorem MapIAt.mapI {key : Value} {st : Nat} (h : MapIAt P k w mb n f key st) : MapI P k w mb n f := by
  obtain ⟨es, clock, h1, h2, h3, h4, h5, _⟩ := h;exact ⟨es, clock, h1, h2, h3, h4, h5⟩
variable (K : KeyLaw P k) (ht : P.underlying t = some (.map k e)) (hz : ∀ u : World, (zeroValue e).run P u = .ok (.int .i64 0) u)
include K ht hz
theorem MapI.look (h : MapI P k w mb n f) {key : Value} {kl : Lit} (hkey : keyOf P k key = some kl) : (Instr.lookup t (.map (some mb)) key false).run P w = .ok (.int .i64 (f key)) w := by
  obtain ⟨es, clock, hb, _, _, h4, h5⟩ := h;rcases K.find w hkey es.toList (fun x hx => (h4 x hx).1) with ⟨h1, h2⟩ | ⟨j, e0, h1, h2, h3⟩
  · simp [Instr.lookup, run_underlying ht, MapKept.run_getObj_map hb, K.check w _ hkey, h1, hz, Result.andThen, h5 key h2]
  · have := (h4 e0 (List.mem_of_getElem? h2)).2;rw [h3] at this;simp [Instr.lookup, run_underlying ht, MapKept.run_getObj_map hb, K.check w _ hkey, h1, Result.andThen, this]
theorem MapI.entry (h : MapI P k w mb n f) {key : Value} {kl : Lit} (hkey : keyOf P k key = some kl) :
    ∃ (st : Nat) (w' : World), (Instr.mapEntry t (.map (some mb)) key).run P w = .ok (.tuple #[.int .i64 (f key), goInt st]) w' ∧ MapIAt P k w' mb (n + 1) f key st ∧ Keep [mb] w w' ∧ w'.heap.size = w.heap.size := by
  obtain ⟨es, clock, hb, hn, hs, h4, h5⟩ := h;have kp : ∀ o : Obj, Keep [mb] w { w with heap := w.heap.setIfInBounds mb o } := fun o => ⟨rfl, rfl, rfl, by simp, fun i hi hne => by
    simp only [List.mem_singleton] at hne;exact Array.getElem?_setIfInBounds_ne (fun e => hne e.symm)⟩
  have hh : ∀ o : Obj, ({ w with heap := w.heap.setIfInBounds mb o } : World).heap[mb]? = some o := fun o => (MapKept.heap_set hb).1;rcases K.find w hkey es.toList (fun x hx => (h4 x hx).1) with ⟨h1, h2⟩ | ⟨j, e0, h1, h2, h3⟩
  · refine ⟨clock, _, ?_, ⟨es.push ⟨key, .int .i64 0, clock⟩, clock + 1, hh _, by simp; omega, MapKept.stamped_push hs h2, ?_, ?_, es.size, ⟨key, .int .i64 0, clock⟩, by simp, rfl, rfl⟩, kp _, by simp⟩
    · simp [Instr.mapEntry, run_underlying ht, MapKept.run_getObj_map hb, K.check w false hkey, h1, hz, MapKept.run_setObj_map _ hb, Result.andThen, h5 key h2]
    · intro x hx;rw [Array.toList_push] at hx;rcases List.mem_append.1 hx with hx | hx
      · exact h4 x hx
      · rw [List.mem_singleton.1 hx];exact ⟨⟨kl, hkey⟩, by rw [h5 key h2]⟩
    · intro key' hk';refine h5 key' fun x hx => hk' x ?_;rw [Array.toList_push];exact List.mem_append_left _ hx
  · have hj : es[j]? = some e0 := by simpa using h2
    have hjl : j < es.size := (Array.getElem?_eq_some_iff.1 hj).1;have hv := (h4 e0 (List.mem_of_getElem? h2)).2;rw [h3] at hv;have hsame : es.modify j (fun e => { e with key := key }) = es := by
      apply Array.ext_getElem?;intro i;rw [Array.getElem?_modify];by_cases e : j = i
      · subst e;rw [if_pos rfl, hj];simp [← h3]
      · rw [if_neg e]
    refine ⟨e0.born, _, ?_, ⟨es, clock, hh _, by omega, hs, h4, h5, j, e0, hj, h3, rfl⟩, kp _, by simp⟩;simp [Instr.mapEntry, run_underlying ht, MapKept.run_getObj_map hb, K.check w false hkey, h1, hj, h3, K.stays w hkey, hsame, MapKept.run_setObj_map _ hb, Result.andThen, hv]
omit K ht hz in
theorem MapIAt.store {key : Value} {st : Nat} (h : MapIAt P k w mb n f key st) (x : Int) (g : Value → Int) (hg : g key = x) (hg2 : ∀ v, v ≠ key → g v = f v) :
    ∃ w', (Instr.entryStore t (.map (some mb)) (goInt st) (.int .i64 x)).run P w = .ok () w' ∧ MapI P k w' mb n g ∧ Keep [mb] w w' ∧ w'.heap.size = w.heap.size := by
  obtain ⟨es, clock, hb, hn, hs, h4, h5, j, e0, hj, hk, rfl⟩ := h;have hjl : j < es.size := (Array.getElem?_eq_some_iff.1 hj).1;obtain ⟨s1, s2, s3⟩ := (MapKept.stamped_iff es clock).1 hs;have hidx : es.findIdx? (fun e => ((e.born : Nat) : Int) == ((e0.born : Nat) : Int)) = some j := by
    have hfi : ∀ (l : List MapEntry), (l.map (·.born)).Nodup → ∀ {j : Nat} {e0 : MapEntry}, l[j]? = some e0 → l.findIdx? (fun e => ((e.born : Nat) : Int) == ((e0.born : Nat) : Int)) = some j := by
      intro l;induction l with
      | nil => intro _ j e0 h; simp at h
      | cons a r ih =>
        intro hn j e0 h;simp only [List.map_cons, List.nodup_cons] at hn;cases j with
        | zero =>
          simp only [List.getElem?_cons_zero, Option.some.injEq] at h;subst h;simp [List.findIdx?_cons]
        | succ j =>
          simp only [List.getElem?_cons_succ] at h;have hne : a.born ≠ e0.born := fun e1 => hn.1 (List.mem_map.2 ⟨e0, List.mem_of_getElem? h, e1.symm⟩);have hb : (((a.born : Nat) : Int) == ((e0.born : Nat) : Int)) = false := by
            simp only [beq_eq_false_iff_ne, ne_eq, Int.natCast_inj];exact hne
          rw [List.findIdx?_cons, hb];simp [ih hn.2 h]
    have := hfi es.toList s2 (j := j) (e0 := e0) (by simpa using hj);cases es;simpa using this
  have hnew : ∀ y ∈ (es.modify j (fun e => { e with val := .int .i64 x })).toList, ∃ z ∈ es.toList, y.key = z.key ∧ y.val = .int .i64 (g z.key) := by
    intro y hy;obtain ⟨i, hi⟩ := List.mem_iff_getElem?.1 hy;rw [Array.getElem?_toList, Array.getElem?_modify] at hi;by_cases e : j = i
    · subst e;rw [if_pos rfl, hj] at hi;simp only [Option.map_some, Option.some.injEq] at hi;refine ⟨e0, List.mem_of_getElem? (i := j) (by simpa using hj), by rw [← hi], ?_⟩;rw [← hi, hk, hg]
    · rw [if_neg e] at hi;have hm : y ∈ es.toList := List.mem_of_getElem? (i := i) (by simpa using hi);refine ⟨y, hm, rfl, ?_⟩;have hne : y.key ≠ key := by
        rw [← hk];have e1 : es.toList[j]? = some e0 := by simpa using hj
        have e2 : es.toList[i]? = some y := by simpa using hi
        obtain ⟨l1, g1⟩ := List.getElem?_eq_some_iff.1 e1;obtain ⟨l2, g2⟩ := List.getElem?_eq_some_iff.1 e2;rw [← g1, ← g2];rcases Nat.lt_or_ge i j with q | q
        · exact (List.pairwise_iff_getElem.1 s3 i j l2 l1 q)
        · exact Ne.symm (List.pairwise_iff_getElem.1 s3 j i l1 l2 (by omega))
      rw [hg2 _ hne];exact (h4 y hm).2
  refine ⟨{ w with heap := w.heap.setIfInBounds mb (.map (es.modify j (fun e => { e with val := .int .i64 x })) clock) }, ?_, ⟨es.modify j (fun e => { e with val := .int .i64 x }), clock, (MapKept.heap_set hb).1, by simpa using hn, ?_, ?_, ?_⟩, ⟨rfl, rfl, rfl, by simp, fun i hi hne => ?_⟩, by simp⟩
  · simp [Instr.entryStore, MapKept.run_getObj_map hb, asInt, asIntOf, goInt, hidx, MapKept.run_setObj_map _ hb, Result.andThen]
  · exact MapKept.stamped_modify hs j _ (fun _ _ => rfl) (fun _ _ _ => rfl)
  · intro y hy;obtain ⟨z, hz, e1, e2⟩ := hnew y hy;exact ⟨by rw [e1]; exact (h4 z hz).1, by rw [e2, e1]⟩
  · intro key' hk';have hm0 : e0 ∈ es.toList := List.mem_of_getElem? (i := j) (by simpa using hj);have hmap : ∀ z ∈ es.toList, ∃ y ∈ (es.modify j (fun e => { e with val := .int .i64 x })).toList, y.key = z.key := by
      intro z hz;obtain ⟨i, hi⟩ := List.mem_iff_getElem?.1 hz;by_cases e : j = i
      · subst e;refine ⟨{ z with val := .int .i64 x }, List.mem_of_getElem? (i := j) ?_, rfl⟩;rw [Array.getElem?_toList, Array.getElem?_modify, if_pos rfl];rw [Array.getElem?_toList] at hi;rw [hi]; rfl
      · refine ⟨z, List.mem_of_getElem? (i := i) ?_, rfl⟩;rw [Array.getElem?_toList, Array.getElem?_modify, if_neg e];simpa using hi
    have hno : ∀ z ∈ es.toList, z.key ≠ key' := fun z hz => by
      obtain ⟨y, hy, e1⟩ := hmap z hz;rw [← e1]; exact hk' y hy
    have hne : key' ≠ key := fun e => hno e0 hm0 (by rw [hk, e]);rw [hg2 _ hne];exact h5 key' hno
  · simp only [List.mem_singleton] at hne;exact Array.getElem?_setIfInBounds_ne (fun e => hne e.symm)
end
end Go.Proofs.Ytalcinepeofmcaa
namespace Go.Proofs.Ytalcinepeofmcaa
open Go
def upd (l : Nat → Bool) (i : Nat) : Nat → Bool := fun j => if j = i then true else l j
def cntFalse (f : Nat → Bool) : Nat → Nat
  | 0 => 0
  | n + 1 => cntFalse f n + (if f n then 0 else 1)
theorem cntFalse_congr {f g : Nat → Bool} : ∀ n, (∀ j, j < n → f j = g j) → cntFalse f n = cntFalse g n
  | 0, _ => rfl
  | n + 1, h => by rw [cntFalse, cntFalse, cntFalse_congr n (fun j hj => h j (by omega)), h n (by omega)]
theorem cntFalse_upd {f : Nat → Bool} {i : Nat} (hf : f i = false) : ∀ n, i < n → cntFalse (upd f i) n + 1 = cntFalse f n
  | 0, h => absurd h (by omega)
  | n + 1, h => by
    by_cases hi : i = n
    · subst hi;rw [cntFalse, cntFalse, cntFalse_congr i (fun j hj => by simp [upd]; omega : ∀ j, j < i → upd f i j = f j)];simp [upd, hf]
    · rw [cntFalse, cntFalse];have := cntFalse_upd hf n (by omega);have hn : upd f i n = f n := by simp [upd]; omega
      rw [hn];omega
theorem cntFalse_zero {f : Nat → Bool} : ∀ n, cntFalse f n = 0 → ∀ j, j < n → f j = true
  | 0, _, j, hj => absurd hj (by omega)
  | n + 1, h, j, hj => by
    rw [cntFalse] at h;have h1 : f n = true := by
      cases hfn : f n with
      | true => rfl
      | false => rw [hfn] at h; simp at h
    by_cases hjn : j = n
    · subst hjn; exact h1
    · exact cntFalse_zero n (by omega) j (by omega)
theorem cntFalse_le (f : Nat → Bool) : ∀ n, cntFalse f n ≤ n
  | 0 => Nat.le_refl _
  | n + 1 => by rw [cntFalse]; have := cntFalse_le f n; split <;> omega
structure FrOk (ops : List Oper) (a0 : Act) (φ : Nat → Value → World → Prop) (l : Nat → Bool) (a : Act) (w : World) : Prop where
  defers : a.defers = a0.defers
  size : a.tmps.size = a0.tmps.size
  other : ∀ t, (∀ j o, ops[j]? = some o → o.dst = some t → l j = false) → a.tmps[t]? = a0.tmps[t]?
  vals : ∀ j o d, l j = true → ops[j]? = some o → o.dst = some d → ∃ v, a.tmps[d]? = some v ∧ φ j v w
  closed : ∀ j o, l j = true → ops[j]? = some o → ∀ e ∈ o.after.toList, Region.binds .any e = true → l e.on = true
def regionOk (ops : List Oper) (n : Nat) : Bool :=
  (ops.filterMap (·.dst)).Nodup && (ops.filterMap (·.dst)).all (· < n) && ops.zipIdx.all (fun p => p.1.guard.isNone && p.1.after.toList.all fun e => !Region.binds .any e || decide (e.on < p.2))
theorem nodup_dst : ∀ {ops : List Oper}, (ops.filterMap (fun o => o.dst)).Nodup → ∀ {i j : Nat} {o o' : Oper} {d : Nat}, ops[i]? = some o → ops[j]? = some o' → o.dst = some d → o'.dst = some d → i = j
  | [], _, i, j, o, o', d, hi, _, _, _ => by simp at hi
  | x :: xs, h, i, j, o, o', d, hi, hj, ho, ho' => by
    have hx : (xs.filterMap (·.dst)).Nodup := by
      cases hxd : x.dst with
      | none => simpa [List.filterMap_cons, hxd] using h
      | some y => rw [List.filterMap_cons, hxd] at h; exact (List.nodup_cons.1 h).2
    have hmem : ∀ {k : Nat} {p : Oper}, xs[k]? = some p → p.dst = some d → x.dst ≠ some d := by
      intro k p hk hp hxd;rw [List.filterMap_cons, hxd] at h;exact (List.nodup_cons.1 h).1 (List.mem_filterMap.2 ⟨p, List.mem_of_getElem? hk, hp⟩)
    cases i with
    | zero =>
      cases j with
      | zero => rfl
      | succ j =>
        simp only [List.getElem?_cons_zero, Option.some.injEq] at hi;subst hi;exact absurd ho (hmem (by simpa using hj) ho')
    | succ i =>
      cases j with
      | zero =>
        simp only [List.getElem?_cons_zero, Option.some.injEq] at hj;subst hj;exact absurd ho' (hmem (by simpa using hi) ho)
      | succ j =>
        have := nodup_dst hx (i := i) (j := j) (by simpa using hi) (by simpa using hj) ho ho';omega
def AllFrom (f : Nat → Oper → Prop) : Nat → List Oper → Prop
  | _, [] => True
  | k, o :: os => f k o ∧ AllFrom f (k + 1) os
theorem allFrom_get {f : Nat → Oper → Prop} : ∀ {ops : List Oper} {k : Nat}, AllFrom f k ops → ∀ i o, ops[i]? = some o → f (k + i) o
  | [], _, _, i, o, h => by simp at h
  | x :: xs, k, ⟨h1, h2⟩, i, o, h => by
    cases i with
    | zero =>
      simp only [List.getElem?_cons_zero, Option.some.injEq] at h;subst h;exact h1
    | succ i =>
      have := allFrom_get h2 i o (by simpa using h)
      rwa [show k + 1 + i = k + (i + 1) from by omega] at this
theorem wp_region_inv {σ : Type} {P : Program} {ops : List Oper} {Q : Exit → Act → World → Prop} {id : Nat} {a0 : Act} {w0 : World} (hm : P.follows .mixedOrders = true)
    (hok : regionOk ops a0.tmps.size = true)
    (φ : σ → Nat → Value → World → Prop) (W : σ → (Nat → Bool) → World → Prop) (s0 : σ) (h0 : W s0 (fun _ => false) w0.drew)
    (hstep : ∀ i o, ops[i]? = some o → ∀ s l a w, l i = false → (∀ e ∈ o.after.toList, Region.binds .any e = true → l e.on = true) → W s l w → FrOk ops a0 (φ s) l a w →
      o.wp P a w (fun a' w' => ∃ s' v, a' = a.put o.dst v ∧ W s' (upd l i) w' ∧ (o.dst.isSome = true → φ s' i v w') ∧ (∀ j u, l j = true → φ s j u w → φ s' j u w')) Q)
    (hfin : ∀ s a w, W s (fun j => decide (j < ops.length)) w → FrOk ops a0 (φ s) (fun j => decide (j < ops.length)) a w → Q .normal a w) :
    (Code.region id ops.toArray true).wp P Q a0 w0 := by
  simp only [regionOk, Bool.and_eq_true, decide_eq_true_eq] at hok;obtain ⟨⟨hnd, hltB⟩, hgB⟩ := hok;have hlt : ∀ (o : Oper) (d : Nat), o ∈ ops → o.dst = some d → d < a0.tmps.size := fun o d ho hd => by
    have := List.all_eq_true.1 hltB d (List.mem_filterMap.2 ⟨o, ho, hd⟩);simpa using this
  have hg : ∀ i o, ops[i]? = some o → o.guard = none ∧ ∀ e ∈ o.after.toList, Region.binds .any e = true → e.on < i := fun i o ho => by
    have := List.all_eq_true.1 hgB (o, i) (List.mem_zipIdx_iff_getElem?.2 ho);simp only [Bool.and_eq_true, Option.isNone_iff_eq_none] at this;refine ⟨this.1, fun e he hb => ?_⟩;have h2 := List.all_eq_true.1 this.2 e he;simpa [hb] using h2
  have hsz : ops.toArray.size = ops.length := by simp
  have hall : ∀ listed : Array Bool, listed.size = ops.length → Region.ready .any ops.toArray listed = [] → ∀ n, ∀ j, j < n → j < ops.length → listed.getD j false = true := by
    intro listed hls hr n;induction n with
    | zero => intro j hj; omega
    | succ n ih =>
      intro j hj hjl;by_cases hjn : j < n
      · exact ih j hjn hjl
      · obtain rfl : j = n := by omega
        cases hl : listed.getD j false with
        | true => rfl
        | false =>
          exfalso;have hl' : listed.getD j true = false ∨ listed.size ≤ j := by
            rcases Nat.lt_or_ge j listed.size with h | h
            · left; simp [h] at hl ⊢; exact hl
            · exact .inr h
          have ho : ops[j]? = some ops[j] := List.getElem?_eq_getElem hjl;rcases hl' with hl' | hl'
          · have : j ∈ Region.ready .any ops.toArray listed := mem_ready.2 ⟨hl', ops[j], by simp [hjl], fun e he hb => ih e.on ((hg j _ ho).2 e (by simpa using he) hb) (by have := (hg j _ ho).2 e (by simpa using he) hb; omega)⟩;rw [hr] at this;cases this
          · omega
  have main : ∀ fuel (listed : Array Bool) (a : Act) (w : World) (s : σ), listed.size = ops.length → cntFalse (fun j => listed.getD j false) ops.length ≤ fuel → W s (fun j => listed.getD j false) w → FrOk ops a0 (φ s) (fun j => listed.getD j false) a w →
      wpAny P .any ops.toArray Q fuel listed a w := by
    intro fuel;have hend : ∀ (listed : Array Bool) (a : Act) (w : World) (s : σ), listed.size = ops.length → (∀ j, j < ops.length → listed.getD j false = true) → W s (fun j => listed.getD j false) w → FrOk ops a0 (φ s) (fun j => listed.getD j false) a w → Q .normal a w := by
      intro listed a w s hs hl hW hF;have he : (fun j => listed.getD j false) = fun j => decide (j < ops.length) := by
        funext j
        by_cases hj : j < ops.length
        · rw [hl j hj]; simp [hj]
        · simp [hj, hs]
      rw [he] at hW hF;exact hfin s a w hW hF
    induction fuel with
    | zero =>
      intro listed a w s hs hc hW hF;have hl := cntFalse_zero ops.length (Nat.le_zero.1 hc);refine ⟨?_, hend listed a w s hs hl hW hF⟩;apply List.eq_nil_iff_forall_not_mem.2;intro i hi;obtain ⟨h1, o, ho, _⟩ := mem_ready.1 hi;have hil : i < ops.length := by simpa using (Array.getElem?_eq_some_iff.1 ho).1
      have h2 := hl i hil;have : i < listed.size := by omega
      simp [this] at h1 h2;rw [h2] at h1;cases h1
    | succ fuel ih =>
      intro listed a w s hs hc hW hF;refine ⟨fun hr => hend listed a w s hs (fun j hj => hall listed hs hr (j + 1) j (by omega) hj) hW hF, fun i hi => ?_⟩;obtain ⟨h1, o, ho, hdep⟩ := mem_ready.1 hi;have hil : i < ops.length := by simpa using (Array.getElem?_eq_some_iff.1 ho).1
      have ho' : ops[i]? = some o := by rw [← ho]; simp
      have hli : i < listed.size := by omega
      have hl0 : listed.getD i false = false := by simp [hli] at h1 ⊢; exact h1
      have hst := hstep i o ho' s (fun j => listed.getD j false) a w hl0 (fun e he hb => hdep e (by simpa using he) hb) hW hF;unfold wpOp;rw [ho];simp only [Region.wanted, (hg i o ho').1, if_true];refine .inl (Oper.wp_mono ?_ hst);rintro a' w' ⟨s', v, rfl, hW', hφ, hstab⟩;have hupd : (fun j => (listed.setIfInBounds i true).getD j false) = upd (fun j => listed.getD j false) i := by
        funext j
        simp only [upd];split
        · rename_i hj; subst hj; simp [hli]
        · rename_i hj; rw [getD_set_ne false (Ne.symm hj)]
      have hcl : ∀ j o', upd (fun j => listed.getD j false) i j = true → ops[j]? = some o' → ∀ e ∈ o'.after.toList, Region.binds .any e = true → upd (fun j => listed.getD j false) i e.on = true := by
        intro j o' hj ho'' e he hb;have hold : (listed.getD e.on false) = true → upd (fun j => listed.getD j false) i e.on = true := fun h => by simp only [upd]; split <;> first | rfl | exact h
        by_cases hji : j = i
        · subst hji;rw [ho'] at ho'';injection ho'' with e1
          subst e1;exact hold (hdep e (by simpa using he) hb)
        · have hj' : listed.getD j false = true := by simpa [upd, hji] using hj
          exact hold (hF.closed j o' hj' ho'' e he hb)
      have hF' : FrOk ops a0 (φ s') (upd (fun j => listed.getD j false) i) (a.put o.dst v) w' := by
        cases hd : o.dst with
        | none =>
          refine ⟨hF.defers, hF.size, fun t ht => hF.other t (fun j o' hj hd' => by have := ht j o' hj hd'; simp only [upd] at this; split at this <;> first | exact this | cases this), fun j o' d hj ho'' hd' => ?_, hcl⟩;have hji : j ≠ i := by
            rintro rfl;rw [ho'] at ho'';injection ho'' with e
            rw [← e, hd] at hd';cases hd'
          have hj' : listed.getD j false = true := by simpa [upd, hji] using hj
          obtain ⟨u, hu, hp⟩ := hF.vals j o' d hj' ho'' hd';exact ⟨u, hu, hstab j u hj' hp⟩
        | some d0 =>
          refine ⟨hF.defers, by simp [Act.put, hF.size], fun t ht => ?_, fun j o' d hj ho'' hd' => ?_, hcl⟩
          · have : d0 ≠ t := fun e => by
              have := ht i o ho' (by rw [hd, e]);simp [upd] at this
            simp only [Act.put];rw [Array.getElem?_setIfInBounds_ne this];exact hF.other t (fun j o' hj hd' => by have := ht j o' hj hd'; simp only [upd] at this; split at this <;> first | exact this | cases this)
          · by_cases hji : j = i
            · subst hji;rw [ho'] at ho'';injection ho'' with e
              subst e;rw [hd] at hd';injection hd' with e
              subst e;have hlt' : d0 < a.tmps.size := by rw [hF.size]; exact hlt o d0 (List.mem_of_getElem? ho') hd
              exact ⟨v, by simp [Act.put, hlt'], hφ (by rw [hd]; rfl)⟩
            · have hj' : listed.getD j false = true := by simpa [upd, hji] using hj
              obtain ⟨u, hu, hp⟩ := hF.vals j o' d hj' ho'' hd';have hne : d0 ≠ d := by
                rintro rfl;exact hji (nodup_dst hnd ho'' ho' hd' hd)
              refine ⟨u, ?_, hstab j u hj' hp⟩;simp only [Act.put];rw [Array.getElem?_setIfInBounds_ne hne];exact hu
      refine ih _ _ _ s' (by simp [hs]) ?_ (by rw [hupd]; exact hW') (by rw [hupd]; exact hF');rw [hupd];have := cntFalse_upd (f := fun j => listed.getD j false) hl0 ops.length hil;omega
  refine wp_region_any hm ?_;rw [hsz];have hf : (fun j => (Array.replicate ops.length false).getD j false) = fun _ => false := by
    funext j
    rcases Nat.lt_or_ge j ops.length with h | h <;> simp [h]
  refine main ops.length _ a0 w0.drew s0 (by simp) (cntFalse_le _ _) (by rw [hf]; exact h0) ?_;exact ⟨rfl, rfl, fun _ _ => rfl, fun j o d hj => (by rw [congrFun hf j] at hj; cases hj), fun j o hj => (by rw [congrFun hf j] at hj; cases hj)⟩
def StepOk {σ : Type} (P : Program) (ops : List Oper) (Q : Exit → Act → World → Prop) (a0 : Act) (φ : σ → Nat → Value → World → Prop) (W : σ → (Nat → Bool) → World → Prop) (i : Nat) (o : Oper) : Prop :=
  ∀ s l a w, l i = false → (∀ e ∈ o.after.toList, Region.binds .any e = true → l e.on = true) → W s l w → FrOk ops a0 (φ s) l a w →
      o.wp P a w (fun a' w' => ∃ s' v, a' = a.put o.dst v ∧ W s' (upd l i) w' ∧ (o.dst.isSome = true → φ s' i v w') ∧ (∀ j u, l j = true → φ s j u w → φ s' j u w')) Q
theorem wRS {σ : Type} {P : Program} {ops : List Oper} {Q : Exit → Act → World → Prop} {id : Nat} {a0 : Act} {w0 : World} (hm : P.follows .mixedOrders = true)
    (hok : regionOk ops a0.tmps.size = true)
    (φ : σ → Nat → Value → World → Prop) (W : σ → (Nat → Bool) → World → Prop) (s0 : σ) (h0 : W s0 (fun _ => false) w0.drew)
    (hstep : AllFrom (StepOk P ops Q a0 φ W) 0 ops)
    (hfin : ∀ s a w, W s (fun j => decide (j < ops.length)) w → FrOk ops a0 (φ s) (fun j => decide (j < ops.length)) a w → Q .normal a w) :
    (Code.region id ops.toArray true).wp P Q a0 w0 :=
  wp_region_inv hm hok φ W s0 h0 (fun i o ho => by have := allFrom_get hstep i o ho; rwa [Nat.zero_add] at this) hfin
theorem sP_ {σ : Type} {P : Program} {ops : List Oper} {Q : Exit → Act → World → Prop} {a0 : Act} {φ : σ → Nat → Value → World → Prop} {W : σ → (Nat → Bool) → World → Prop} {i : Nat} {o : Oper}
    (h : ∀ s l a w, l i = false → (∀ e ∈ o.after.toList, Region.binds .any e = true → l e.on = true) → W s l w → FrOk ops a0 (φ s) l a w →
      W s (upd l i) w ∧ ∃ v, (execOp a.eval o).run P w = .ok (.value v) w ∧ φ s i v w) : StepOk P ops Q a0 φ W i o := by
  intro s l a w hl hd hW hF;obtain ⟨hW', v, hr, hp⟩ := h s l a w hl hd hW hF;unfold Oper.wp;rw [hr];exact ⟨s, v, rfl, hW', fun _ => hp, fun _ _ _ h => h⟩
theorem sR_ {σ : Type} {P : Program} {ops : List Oper} {Q : Exit → Act → World → Prop} {a0 : Act} {φ : σ → Nat → Value → World → Prop} {W : σ → (Nat → Bool) → World → Prop} {i : Nat} {o : Oper}
    (h : ∀ s l a w, l i = false → (∀ e ∈ o.after.toList, Region.binds .any e = true → l e.on = true) → W s l w → FrOk ops a0 (φ s) l a w →
      ∃ v w' s', (execOp a.eval o).run P w = .ok (.value v) w' ∧ W s' (upd l i) w' ∧ φ s' i v w' ∧ (∀ j u, l j = true → φ s j u w → φ s' j u w')) : StepOk P ops Q a0 φ W i o := by
  intro s l a w hl hd hW hF;obtain ⟨v, w', s', hr, hW', hp, hst⟩ := h s l a w hl hd hW hF;unfold Oper.wp;rw [hr];exact ⟨s', v, rfl, hW', fun _ => hp, hst⟩
theorem sS_ {σ : Type} {P : Program} {ops : List Oper} {Q : Exit → Act → World → Prop} {a0 : Act} {φ : σ → Nat → Value → World → Prop} {W : σ → (Nat → Bool) → World → Prop} {i : Nat} {o : Oper} (hn : o.dst = none)
    (h : ∀ s l a w, l i = false → (∀ e ∈ o.after.toList, Region.binds .any e = true → l e.on = true) → W s l w → FrOk ops a0 (φ s) l a w →
      ∃ w' s' r, (execOp a.eval o).run P w = .ok r w' ∧ (r = .skip ∨ ∃ v, r = .value v) ∧ W s' (upd l i) w' ∧ (∀ j u, l j = true → φ s j u w → φ s' j u w')) : StepOk P ops Q a0 φ W i o := by
  intro s l a w hl hd hW hF;obtain ⟨w', s', r, hr, hr', hW', hst⟩ := h s l a w hl hd hW hF;unfold Oper.wp;rw [hr];rcases hr' with rfl | ⟨v, rfl⟩
  · exact ⟨s', undef, rfl, hW', fun hs => (by rw [hn] at hs; cases hs), hst⟩
  · exact ⟨s', v, rfl, hW', fun hs => (by rw [hn] at hs; cases hs), hst⟩
theorem sC_ {σ : Type} {P : Program} {ops : List Oper} {Q : Exit → Act → World → Prop} {a0 : Act} {φ : σ → Nat → Value → World → Prop} {W : σ → (Nat → Bool) → World → Prop} {i : Nat} {o : Oper}
    (h : ∀ s l a w, l i = false → (∀ e ∈ o.after.toList, Region.binds .any e = true → l e.on = true) → W s l w → FrOk ops a0 (φ s) l a w →
      ∃ f args, (execOp a.eval o).run P w = .ok (.enter f args) w ∧ Calls P f args w fun e w' => ∃ v s', e = .returned v ∧ W s' (upd l i) w' ∧ φ s' i v w' ∧ (∀ j u, l j = true → φ s j u w → φ s' j u w')) : StepOk P ops Q a0 φ W i o := by
  intro s l a w hl hd hW hF;obtain ⟨f, args, hr, hc⟩ := h s l a w hl hd hW hF;unfold Oper.wp;rw [hr, Oper.upon_enter];refine hc.mono ?_;rintro e w' ⟨v, s', rfl, hW', hp, hst⟩;exact ⟨s', v, rfl, hW', fun _ => hp, hst⟩
section
variable {ops : List Oper} {a0 : Act} {φ : Nat → Value → World → Prop} {l : Nat → Bool} {a : Act} {w : World}
theorem FrOk.notYet (h : FrOk ops a0 φ l a w) (i j : Nat) (hi : l i = false) (hw : ((ops[j]?).map fun o => o.after.toList.any fun e => Region.binds .any e && e.on == i) = some true) : l j = false := by
  cases hj : l j with
  | false => rfl
  | true =>
    cases ho : ops[j]? with
    | none => rw [ho] at hw; cases hw
    | some o =>
      rw [ho] at hw;simp only [Option.map_some, Option.some.injEq] at hw;obtain ⟨e, he, hb⟩ := List.any_eq_true.1 hw;simp only [Bool.and_eq_true, beq_iff_eq] at hb;have := h.closed j o hj ho e he hb.1;rw [hb.2, hi] at this;cases this
theorem FrOk.before (h : FrOk ops a0 φ l a w) (i j : Nat) (hj : l j = true) (hw : ((ops[j]?).map fun o => o.after.toList.any fun e => Region.binds .any e && e.on == i) = some true) : l i = true := by
  cases hi : l i with
  | true => rfl
  | false => rw [h.notYet i j hi hw] at hj; cases hj
theorem FrOk.old (h : FrOk ops a0 φ l a w) (t : Nat) (ht : ops.all (fun o => decide (o.dst ≠ some t)) = true) : a.eval (.tmp t) = a0.eval (.tmp t) := by
  have := h.other t (fun j o ho hd => absurd hd (by simpa using List.all_eq_true.1 ht o (List.mem_of_getElem? ho)));simp only [Act.eval, Array.getD_eq_getD_getElem?, this]
theorem FrOk.was (h : FrOk ops a0 φ l a w) (j t : Nat) (hl : l j = false) (ht : ops.zipIdx.all (fun p => decide (p.1.dst ≠ some t) || p.2 == j) = true) : a.eval (.tmp t) = a0.eval (.tmp t) := by
  have := h.other t (fun i o ho hd => by
    have h1 := List.all_eq_true.1 ht (o, i) (List.mem_zipIdx_iff_getElem?.2 ho);simp [hd] at h1;rw [h1]; exact hl)
  simp only [Act.eval, Array.getD_eq_getD_getElem?, this]
theorem FrOk.new (h : FrOk ops a0 φ l a w) (j d : Nat) (hl : l j = true) (hd : (ops[j]?).bind (·.dst) = some d) : φ j (a.eval (.tmp d)) w := by
  cases ho : ops[j]? with
  | none => rw [ho] at hd; cases hd
  | some o =>
    rw [ho] at hd;obtain ⟨v, hv, hp⟩ := h.vals j o d hl ho hd;simpa [Act.eval, Array.getD_eq_getD_getElem?, hv] using hp
theorem foldl_set (f : Nat → Value) : ∀ (ts : List Nat) (z : Array Value), (ts.foldl (fun z t => z.setIfInBounds t (f t)) z).size = z.size ∧
    ∀ i, i < z.size → (ts.foldl (fun z t => z.setIfInBounds t (f t)) z)[i]? = if i ∈ ts then some (f i) else z[i]?
  | [], z => ⟨rfl, fun i _ => by simp⟩
  | t :: ts, z => by
    obtain ⟨h1, h2⟩ := foldl_set f ts (z.setIfInBounds t (f t));refine ⟨by simpa using h1, fun i hi => ?_⟩;have := h2 i (by simpa using hi);simp only [List.foldl_cons];rw [this];by_cases hts : i ∈ ts
    · simp [hts]
    · by_cases hit : t = i
      · subst hit; simp [hts, hi]
      · simp [hts, Array.getElem?_setIfInBounds_ne hit, Ne.symm hit]
theorem FrOk.lit (h : FrOk ops a0 φ (fun j => decide (j < ops.length)) a w) : ∃ f : Nat → Value, (∀ t, f t = a.eval (.tmp t)) ∧ a = { tmps := (ops.filterMap (fun o => o.dst)).foldl (fun z t => z.setIfInBounds t (f t)) a0.tmps, defers := a0.defers } := by
  refine ⟨fun t => a.eval (.tmp t), fun _ => rfl, ?_⟩;obtain ⟨h1, h2⟩ := foldl_set (fun t => a.eval (.tmp t)) (ops.filterMap (fun o => o.dst)) a0.tmps;have ht : a.tmps = (ops.filterMap (fun o => o.dst)).foldl (fun z t => z.setIfInBounds t (a.eval (.tmp t))) a0.tmps := by
    apply Array.ext_getElem?;intro i;rcases Nat.lt_or_ge i a0.tmps.size with hi | hi
    · rw [h2 i hi];split
      · simp [Act.eval, Array.getD_eq_getD_getElem?, h.size, hi]
      · rename_i hn
        exact h.other i (fun j o ho hd => absurd (List.mem_filterMap.2 ⟨o, List.mem_of_getElem? ho, hd⟩) hn)
    · rw [Array.getElem?_eq_none (by rw [h.size]; exact hi), Array.getElem?_eq_none (by rw [h1]; exact hi)]
  obtain ⟨tm, df⟩ := a;have hdf := h.defers;simp only at ht hdf ⊢;rw [hdf]
  congr 1
end
end Go.Proofs.Ytalcinepeofmcaa
